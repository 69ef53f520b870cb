/- Calls. -/
import Derived.Test.YtlhinijgdffcdaaGreatDoorXfer
namespace Go.Ab
open Go
set_option linter.unusedVariables false
set_option linter.unusedSimpArgs false
structure FnIn (E : Env) (w : World) (args : List S) (es : List Ent) (vs : List Value) : Prop where
 vals : RelVL E (tbOf es) w args vs
 ent : ∀ (k : Nat) (e : Ent), es[k]? = some e → RelE E (tbOf es) w k e
 inj : ∀ (k j : Nat) (p q : Nat × Nat) (e f : Ent), E.κ k = some p → E.κ j = some q → es[k]? = some e → es[j]? = some f → p.1 = q.1 → k = j
 keyS : ∀ k ∈ keysOfL args, k < 64
 keyE : ∀ (k : Nat) (e : Ent), es[k]? = some e → ∀ j ∈ e.keys, j < 64
 glob : ∀ g s, E.gl g = some s → (∀ t, E.ok (tbOf es) t g) ∧ g < w.heap.size ∧ ∃ cs, Lies w g 0 cs ∧ Rel E (tbOf es) w s cs ∧ keysOf s = []
 avlt : ∀ t b, E.av t b → b < w.heap.size
 len : es.length < 63
def ownsB (E : Env) (es : List Ent) (b : Nat) (f : Bool) : Prop := ∃ (k : Nat) (p : Nat × Nat) (e : Ent), E.κ k = some p ∧ es[k]? = some e ∧ p.1 = b ∧ (f = false → e.fz = false)
structure FnOut (E0 : Env) (w0 : World) (es0 : List Ent) (np : Nat) (E : Env) (w : World) (es : List Ent) (v : S) (rv : Value) : Prop where
 val : RelV E (tbOf es) w v rv
 ent : ∀ (k : Nat) (e : Ent), es[k]? = some e → RelE E (tbOf es) w k e
 inj : ∀ (k j : Nat) (p q : Nat × Nat) (e f : Ent), E.κ k = some p → E.κ j = some q → es[k]? = some e → es[j]? = some f → p.1 = q.1 → k = j
 av : E.av = E0.av
 gl : E.gl = E0.gl
 pin : ∀ k, k < np → E.κ k = E0.κ k
 form : ∀ (k : Nat), k < np → ∀ e', es[k]? = some e' → ∃ e, es0[k]? = some e ∧ SameForm e e' ∧ (e.fz = true → e'.fz = true)
 hist : Hist w0 (ownsB E0 es0 · false) w
 own : ∀ (k : Nat) (p : Nat × Nat) (e : Ent), E.κ k = some p → es[k]? = some e → w0.heap.size ≤ p.1 ∨ ownsB E0 es0 p.1 e.fz
def FnOk (P : Program) (gl : Nat → Option S) (f : FuncId) (np : Nat) (args : List S) (es : List Ent) (v : S) (es' : List Ent) : Prop :=
 (∀ (as : Array Value) (w : World), (callFunc f as).run P w = .ok (.enter f as) w) ∧
 ∀ (E : Env) (w : World) (vs : List Value), E.gl = gl → FnIn E w args es vs →
  Calls P f vs.toArray w fun en w' => ∃ rv E', en = .returned rv ∧ FnOut E w es np E' w' es' v rv
def npF (raw : FuncId → Bool) (f : FuncId) (es : List Ent) : Nat := if raw f then es.length else npOf es
def CfOk {R : Type} (P : Program) (gl : Nat → Option S) (raw : FuncId → Bool) (cf : CallF R) : Prop :=
 ∀ f args es K r, cf f args es K = some r → ∃ v es', FnOk P gl f (npF raw f es) args es v es' ∧ K v es' = some r
mutual
theorem ren_none {ρ : Nat → Nat} : ∀ {s : S}, keysOf s = [] → ren ρ s = s
 | .st fs, h => by simp only [keysOf] at h; simp only [ren, renL_none h]
 | .tup fs, h => by simp only [keysOf] at h; simp only [ren, renL_none h]
 | .fn f fs, h => by simp only [keysOf] at h; simp only [ren, renL_none h]
 | .iface t v, h => by simp only [keysOf] at h; simp only [ren, ren_none h]
 | .own e k, h => by simp [keysOf] at h
 | .twn e k n, h => by simp [keysOf] at h
 | .ptr k p, h => by simp [keysOf] at h
 | .mp k, h => by simp [keysOf] at h
 | .int .., _ | .bool _, _ | .str _, _ | .sl .., _ | .nilsl, _ | .arr .., _ | .nilp, _ | .iref .., _ | .gptr .., _ | .nilfn, _ | .nili, _ | .nilmp, _ | .err _, _ | .junk, _ => rfl
theorem renL_none {ρ : Nat → Nat} : ∀ {l : List S}, keysOfL l = [] → renL ρ l = l
 | [], _ => rfl
 | f :: r, h => by simp only [keysOfL, List.append_eq_nil_iff] at h; simp only [renL, ren_none h.1, renL_none h.2]
end
section
variable {E : Env} {w0 : World} {own0 : Nat → Bool → Prop} {st : St} {D : List Nat} {a : Act} {w : World} {C : Ctx} {o : Oper} {i : Nat}
def OpDoes (P : Program) (E : Env) (w0 : World) (own0 : Nat → Bool → Prop) (st : St) (D : List Nat) (i : Nat) (o : Oper) (v : S) (ef : List (Nat × Option Ent)) (a : Act) (w : World) : Prop :=
 ∀ (K : Act → World → Prop) (Q : Exit → Act → World → Prop),
  (∀ u w' E', RelSt E' w0 own0 ⟨setDst st.sl o.dst v, st.tb.sets ef, st.ep, st.np⟩ (i :: D) (a.put o.dst u).tmps w' → E'.av = E.av → E'.gl = E.gl → (∀ k, k / 64 ≠ st.ep * 4096 + i → E'.κ k = E.κ k) →
   (∀ k e', st.tb.sets ef k = some e' → k / 64 ≠ st.ep * 4096 + i → ∃ e, st.tb k = some e ∧ SameForm e e' ∧ (e.fz = true → e'.fz = true)) → K (a.put o.dst u) w') →
  o.wp P a w K Q
theorem OpGood.does {v : S} {ef : List (Nat × Option Ent)} (h : OpGood C.P E w0 own0 st D i o v ef a w) : OpDoes C.P E w0 own0 st D i o v ef a w := by
 intro K Q hK
 obtain ⟨u, w', E', hr, h1, h2, h3, h4, h5⟩ := h
 have := hK u w' E' h1 h2 h3 h4 h5
 unfold Oper.wp
 rcases hr with hr | ⟨hr, rfl⟩
 ·rw [hr]; exact this
 ·rw [hr]; exact this
mutual
theorem own_keysB : ∀ {s : S} {k : Nat}, k ∈ ownKeys s → k ∈ keysOf s
 | .st fs, k, h => by simp only [ownKeys] at h; simp only [keysOf]; exact ownL_keysB h
 | .tup fs, k, h => by simp only [ownKeys] at h; simp only [keysOf]; exact ownL_keysB h
 | .iface t v, k, h => by simp only [ownKeys] at h; simp only [keysOf]; exact own_keysB h
 | .own e j, k, h => h
 | .twn e j n, k, h => h
 | .int .., k, h | .bool _, k, h | .str _, k, h | .sl .., k, h | .nilsl, k, h | .arr .., k, h | .nilp, k, h | .iref .., k, h | .gptr .., k, h | .nilfn, k, h | .nili, k, h | .nilmp, k, h | .err _, k, h | .junk, k, h | .ptr .., k, h | .fn .., k, h | .mp _, k, h => by simp [ownKeys] at h
theorem ownL_keysB : ∀ {l : List S} {k : Nat}, k ∈ ownKeysL l → k ∈ keysOfL l
 | [], k, h => by simp [ownKeysL] at h
 | f :: r, k, h => by
  simp only [ownKeysL, keysOfL, List.mem_append] at h ⊢
  rcases h with h | h
  ·exact .inl (own_keysB h)
  ·exact .inr (ownL_keysB h)
end
theorem lowB_own {tb : Tbl} {a : S} {k : Nat} (h : lowB tb a = true) (hk : k ∈ ownKeys a) : ∃ u n xs fz, a = .twn u k n ∧ tb k = some (.buf (.int .u8) xs fz) := by
 have key : (keysOf a).isEmpty = true → False := fun h => by
  have := own_keysB hk
  rw [List.isEmpty_iff.1 h] at this
  cases this
 cases a with
 | twn u k' n =>
  simp only [ownKeys, List.mem_singleton] at hk
  subst hk
  simp only [lowB] at h
  split at h <;> try contradiction
  rename_i xs fz he
  exact ⟨u, n, xs, fz, rfl, he⟩
 | _ => exact (key h).elim
theorem argsC_rel {E2 : Env} {tb tb2 : Tbl} {P : Program} {ρ : Nat → Nat} (X : Xfer ρ E tb E2 tb2 w False) (hb : ∀ k e xs fz, tb k = some (.buf e xs fz) → RelE E tb w k (.buf e xs fz)) {qb : Bool} :
  ∀ (ts : List TypeId) (l : List S) {as : List S} {vs : List Value}, RelVL E tb w l vs → argsC P tb ts l = some as → (qb = true → ∀ v ∈ l, lowB tb v = true) →
   (∀ k ∈ lowKeys P ts l, ∀ e p, tb k = some e → E.κ k = some p → ∀ ty : Ty, (qb = true → ty.isNw = false) → E2.ok tb2 ty p.1) → RelVL E2 tb2 w (renL ρ as) vs
 | [], l, as, vs, hr, h, hq, hl => by simp [argsC] at h; subst h; exact X.relVL (fun hF => hF.elim) hr
 | t :: ts, [], as, vs, hr, h, hq, hl => by simp [argsC] at h
 | t :: ts, v :: l, as, vs, hr, h, hq, hl => by
  simp only [argsC] at h
  split at h <;> try contradiction
  rename_i r' hr'
  obtain ⟨u, q, rfl, h1, h2⟩ := hr
  have ih := argsC_rel X hb ts l h2 hr' (fun q z hz => hq q z (by simp [hz])) (fun k hk => hl k (by simp [lowKeys, hk]))
  split at h
  ·rename_i ty hty
   simp only [Option.map_eq_some_iff] at h
   obtain ⟨x, hx, rfl⟩ := h
   have hrt : ∀ {cs}, Rel E tb w v cs → Rt w (E2.ok tb2) ty cs x := fun hcs => by
    by_cases hqk : qb = true ∧ ∃ k, k ∈ ownKeys v
    ·obtain ⟨hq1, k, hk⟩ := hqk
     obtain ⟨u', n, ys, fz, rfl, htk⟩ := lowB_own (hq hq1 v (by simp)) hk
     have hlow : ∀ p, E.κ k = some p → E2.ok tb2 (.int .u8) p.1 := fun p hp => hl k (by simp [lowKeys, hty, hk]) _ p htk hp _ (fun _ => rfl)
     refine lower_low hb htk hlow hcs hx
    ·refine lower_rt hb (fun t b hb hlt => ⟨X.ok.resolve_left (fun h => h.1) t b hb hlt, hlt⟩) (fun _ _ _ _ _ h => h) (fun k hk e p he hp => ⟨fun ty => hl k (by simp [lowKeys, hty, hk]) e p he hp ty (fun hq1 => absurd ⟨hq1, k, hk⟩ hqk), (by obtain ⟨e1, x1, f1, h1⟩ := lower_own hx k hk; exact (hb k _ _ _ h1).lt hp), fun _ _ h => h⟩) hcs hx
   have hag : (lift ty x).isAgg = v.isAgg := by
    cases v <;> cases ty <;> simp [lower, lowerL] at hx <;> first | rfl | (rename_i fs; cases fs <;> simp [lowerL] at hx) | skip
    all_goals rfl
   simp only [renL, RelVL]
   rw [ren_none (lift_keys ty x)]
   refine ⟨u, q, rfl, ?_, ih⟩
   rw [hag]
   split
   ·rename_i ha; rw [if_pos ha] at h1; obtain ⟨aa, h3, h4⟩ := h1; exact ⟨aa, h3, Rt.lift (hrt h4)⟩
   ·rename_i ha; rw [if_neg ha] at h1; exact Rt.lift (hrt h1)
  ·simp only [Option.some.injEq] at h; subst h
   simp only [renL, RelVL]
   refine ⟨u, q, rfl, ?_, ih⟩
   have := X.relV (s := v) (v := u) (fun hF => hF.elim) h1
   exact this
theorem lowKeys_mem {P : Program} : ∀ {ts : List TypeId} {args : List S} {k : Nat}, k ∈ lowKeys P ts args → ∃ a ∈ args, k ∈ ownKeys a
 | [], _, k, h => by simp [lowKeys] at h
 | _ :: _, [], k, h => by simp [lowKeys] at h
 | t :: ts, v :: vs, k, h => by
  simp only [lowKeys, List.mem_append] at h
  rcases h with h | h
  ·split at h
   ·exact ⟨v, List.mem_cons_self, h⟩
   ·cases h
  ·obtain ⟨a, h1, h2⟩ := lowKeys_mem h
   exact ⟨a, List.mem_cons_of_mem _ h1, h2⟩
theorem relVL_mem {tb : Tbl} : ∀ {l : List S} {vs : List Value} {a : S}, RelVL E tb w l vs → a ∈ l → ∃ v, RelV E tb w a v
 | f :: r, vs, a, h, ha => by
  obtain ⟨v, q, rfl, h1, h2⟩ := h
  rcases List.mem_cons.1 ha with rfl | ha
  ·exact ⟨v, h1⟩
  ·exact relVL_mem h2 ha
theorem low_bytes {tb : Tbl} {args : List S} {vs : List Value} (hent : ∀ k e, tb k = some e → RelE E tb w k e) (hargs : RelVL E tb w args vs) (hq : args.all (lowB tb) = true) {P : Program} {ts : List TypeId} {k : Nat} (hk : k ∈ lowKeys P ts args) :
  ∃ p, E.κ k = some p ∧ ByteBlk w p.1 := by
 obtain ⟨a, ha, hka⟩ := lowKeys_mem hk
 obtain ⟨u, n, xs, fz, rfl, he⟩ := lowB_own (List.all_eq_true.1 hq a ha) hka
 obtain ⟨v, hv⟩ := relVL_mem hargs ha
 rw [relV_scalar rfl] at hv
 simp only [Rel, he] at hv
 obtain ⟨b, o, hκ, _, ⟨_, hlt, hroom⟩, _⟩ := hv
 refine ⟨(b, o), hκ, fun j c hc => ?_⟩
 obtain ⟨_, hent⟩ := hent k _ he
 rw [hκ] at hent
 obtain ⟨_, _, _, hrow⟩ := hent
 have hj := hroom j (by rw [hc]; rfl)
 simp only [Ty.size, Nat.mul_one] at hj hrow
 obtain ⟨ecs, h1, h2⟩ := hrow (j - o) (by omega)
 obtain ⟨rfl, _⟩ := h2
 have := h1 0 _ rfl
 rw [show o + (j - o) + 0 = j by omega] at this
 rw [this] at hc
 cases hc
 exact ⟨_, rfl⟩
def allK (tb : Tbl) (as : List S) : List Nat := reach tb 4 (addAll [] (keysOfL as))
def pinsK (raw : FuncId → Bool) (f : FuncId) (tb : Tbl) (as : List S) : List Nat := (allK tb as).filter fun k => pinK tb k || raw f
def ownsK (raw : FuncId → Bool) (f : FuncId) (tb : Tbl) (as : List S) : List Nat := (allK tb as).filter fun k => !(pinK tb k || raw f)
def ksK (raw : FuncId → Bool) (f : FuncId) (tb : Tbl) (as : List S) : List Nat := pinsK raw f tb as ++ ownsK raw f tb as
def lowsK (P : Program) (raw : FuncId → Bool) (f : FuncId) (ts : List TypeId) (args : List S) : List Nat := if raw f then [] else lowKeys P ts args
def asK (P : Program) (raw : FuncId → Bool) (f : FuncId) (tb : Tbl) (ts : List TypeId) (args : List S) : Option (List S) := if raw f then some args else argsC P tb ts args
def bK (pins : List Nat) (n ep d : Nat) : Nat → Nat := backK pins ((List.range n).drop pins.length) ep d
structure CallDid (C : Ctx) (raw : FuncId → Bool) (ep d : Nat) (f : FuncId) (args : List S) (tb : Tbl) (v : S) (ef : List (Nat × Option Ent)) (fn : Func) (as : List S) (es : List Ent) (v' : S) (es' : List Ent) : Prop where
 hfn : C.P.funcs[f]? = some fn
 has : asK C.P raw f tb fn.params.toList args = some as
 hes : entsOf tb (sendK (ksK raw f tb as)) (ksK raw f tb as) = some es
 len : (ksK raw f tb as).length < 63
 hd : d < 4096
 lows : ((lowsK C.P raw f fn.params.toList args).all fun k => !(ksK raw f tb as).contains k) = true
 ok : FnOk C.P C.glob f (npF raw f es) (renL (sendK (ksK raw f tb as)) as) es v' es'
 len1 : (pinsK raw f tb as).length ≤ es'.length
 len2 : es'.length < 63
 hv : v = ren (bK (pinsK raw f tb as) es'.length ep d) v'
 hef : ef = (if flat (args.all (lowB tb)) v' && es'.all (flatE (args.all (lowB tb))) then [] else freezes tb (lowsK C.P raw f fn.params.toList args)) ++ killEf (ownsK raw f tb as) ++
  backEf (bK (pinsK raw f tb as) es'.length ep d) (zipE (List.range es'.length) es')
theorem iteH_some {α : Type} {b : Bool} {x : Option α} {r : α} (h : iteH b x none = some r) : b = true ∧ x = some r := by
 unfold iteH at h
 cases b
 ·simp at h
 ·exact ⟨rfl, by simpa using h⟩
theorem acall_did {R : Type} {raw : FuncId → Bool} {cf : CallF R} {ep d : Nat} {f : FuncId} {args : List S} {tb : Tbl} {K : S → List (Nat × Option Ent) → Option R} {r : R} (hcf : CfOk C.P C.glob raw cf)
  (h : acallK C raw cf ep d f args tb K = some r) : ∃ v ef fn as es v' es', CallDid C raw ep d f args tb v ef fn as es v' es' ∧ K v ef = some r := by
 unfold acallK at h
 split at h <;> try contradiction
 rename_i fn hfn
 split at h <;> try contradiction
 rename_i as has
 simp only at h
 split at h <;> try contradiction
 rename_i es hes
 obtain ⟨hc, h⟩ := iteH_some h
 obtain ⟨v', es', h1, h2⟩ := hcf _ _ _ _ _ h
 obtain ⟨hc3, h2⟩ := iteH_some h2
 simp only [Bool.and_eq_true, decide_eq_true_eq] at hc hc3
 exact ⟨_, _, fn, as, es, v', es', ⟨hfn, has, hes, hc.1.1, hc.1.2, hc.2, h1, hc3.1, hc3.2, rfl, rfl⟩, h2⟩
end
end Go.Ab
