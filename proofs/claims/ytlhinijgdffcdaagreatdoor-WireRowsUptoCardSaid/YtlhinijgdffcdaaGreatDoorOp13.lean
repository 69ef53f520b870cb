/- Slices of slices, texts and arrays. -/
import Derived.Test.YtlhinijgdffcdaaGreatDoorOp12
import Derived.Laws.Slices
namespace Go.Ab
open Go
set_option linter.unusedVariables false
set_option linter.unusedSimpArgs false
def OptI : Option Value → Option Int → Prop
 | none, none => True
 | some v, some n => ∃ k, v = .int k n
 | _, _ => False
def loN (lo : Option Int) : Nat := match lo with | some l => l.toNat | none => 0
def hiN (n : Nat) (hi : Option Int) : Nat := match hi with | some h => h.toNat | none => n
def mxN (cap : Nat) (mx : Option Int) : Nat := match mx with | some m => m.toNat | none => cap
theorem subG_spec {n : Nat} {lo hi mx : Option Int} (hg : ∀ g ∈ subG n lo hi mx, g = true) : loN lo ≤ hiN n hi ∧ hiN n hi ≤ n ∧ (mx.isSome = true → hi.isSome = true ∧ hiN n hi ≤ mxN n mx ∧ mxN n mx ≤ n) ∧
  (∀ l, lo = some l → 0 ≤ l) ∧ (∀ h, hi = some h → 0 ≤ h) ∧ (∀ m, mx = some m → 0 ≤ m) := by
 cases lo <;> cases hi <;> cases mx <;> simp [subG] at hg <;> simp [loN, hiN, mxN] <;> omega
theorem run_sliceBounds {P : Program} {w : World} {isS : Bool} {n cap : Nat} {lov hiv mxv : Option Value} {lo hi mx : Option Int} (h1 : OptI lov lo) (h2 : OptI hiv hi) (h3 : OptI mxv mx)
  (hg : ∀ g ∈ subG n lo hi mx, g = true) (hc : n ≤ cap) :
  (Instr.sliceBounds isS n cap lov hiv mxv).run P w = .ok (loN lo, hiN n hi, mxN cap mx) w := by
 obtain ⟨g1, g2, g3, g4, g5, g6⟩ := subG_spec hg
 have hb : ∀ (k : IntKind) (i : Int) (y : Nat) (c : BoundsCode), 0 ≤ i → i ≤ y → (Instr.sliceBound (.int k i) y c).run P w = .ok i.toNat w := by
  intro k i y c h0 hy
  simp [Instr.sliceBound, asIntOf, h0, hy]
 cases lov <;> cases lo <;> simp only [OptI] at h1 <;> cases hiv <;> cases hi <;> simp only [OptI] at h2 <;> cases mxv <;> cases mx <;> simp only [OptI] at h3
 all_goals
  try obtain ⟨k1, rfl⟩ := h1
  try obtain ⟨k2, rfl⟩ := h2
  try obtain ⟨k3, rfl⟩ := h3
  simp [loN, hiN, mxN] at g1 g2 g3 g4 g5 g6 ⊢ <;>
  (unfold Instr.sliceBounds
   simp only [Sem.run_bind, Sem.run_pure, Result.andThen_ok, Option.isSome_some, Option.isSome_none]
   iterate 3 (try (rw [hb _ _ _ _ (by omega) (by omega)]; try simp only [Sem.run_bind, Sem.run_pure, Result.andThen_ok]))
   try rfl)
theorem sub_spec {α : Type} (xs : List α) (lo hi : Option Int) (hh : hiN xs.length hi ≤ xs.length) (hlo : loN lo ≤ hiN xs.length hi) :
  (sub xs lo hi).length = hiN xs.length hi - loN lo ∧ ∀ i (h : i < (sub xs lo hi).length) (h2 : loN lo + i < xs.length), (sub xs lo hi)[i] = xs[loN lo + i] := by
 cases lo <;> cases hi <;> simp [sub, loN, hiN] at hh hlo ⊢ <;> omega
theorem sub_take {α : Type} (xs : List α) (lo hi : Option Int) (n : Nat) (hn : n = xs.length) : sub xs lo hi = (xs.drop (loN lo)).take (hiN n hi - loN lo) := by
 subst hn
 cases lo <;> cases hi <;> simp [sub, loN, hiN]
 rw [List.take_of_length_le (by simp)]
section
variable {E : Env} {w0 : World} {own0 : Nat → Bool → Prop} {st : St} {D : List Nat} {a : Act} {w : World} {C : Ctx} {o : Oper} {i : Nat} {r : OpR}
theorem optI_of (hR : RelSt E w0 own0 st D a.tmps w) {x : Option Operand} {n : Option Int} (h : asIO (evalS st.sl) x = some n) : OptI (x.map a.eval) n := by
 cases x with
 | none => simp [asIO] at h; subst h; trivial
 | some y =>
  simp only [asIO, Option.map_eq_some_iff] at h
  obtain ⟨m, h1, rfl⟩ := h
  have hy := hR.eval y
  cases hs : evalS st.sl y <;> rw [hs] at h1 hy <;> simp [asI] at h1
  subst h1
  exact ⟨_, (relV_int.1 hy).1⟩
theorem Row.sub {ok : Ty → Nat → Prop} {e : Ty} {b off : Nat} {xs : List e.den} {lo hi : Option Int} (h : Row w ok e b off xs) (hh : hiN xs.length hi ≤ xs.length) (hlo : loN lo ≤ hiN xs.length hi) :
  Row w ok e b (off + loN lo * e.size) (sub xs lo hi) := by
 obtain ⟨h1, h2⟩ := sub_spec xs lo hi hh hlo
 intro j hj
 have hj2 : loN lo + j < xs.length := by omega
 obtain ⟨ecs, q1, q2⟩ := h (loN lo + j) hj2
 refine ⟨ecs, ?_, by rw [h2 j hj hj2]; exact q2⟩
 rwa [Nat.add_mul, ← Nat.add_assoc] at q1
theorem run_slice_of {t et : TypeId} {x : Operand} {lo hi mx : Option Operand} {lo' hi' mx' : Option Int} {p : Option Addr} {n cap m : Nat} (hR : RelSt E w0 own0 st D a.tmps w) (ho : o.op = .slice t x lo hi mx)
  (h1 : asIO (evalS st.sl) lo = some lo') (h2 : asIO (evalS st.sl) hi = some hi') (h3 : asIO (evalS st.sl) mx = some mx')
  (hu : C.P.underlying t = some (.slice et)) (hm : cellsT C.P et = some m) (hv : a.eval x = .slice p n cap) (hg : ∀ g ∈ subG n lo' hi' mx', g = true) (hc : n ≤ cap) :
  (execOp a.eval o).run C.P w = .ok (.value (.slice (if mxN cap mx' = loN lo' then p else p.map (·.add (loN lo' * m))) (hiN n hi' - loN lo') (mxN cap mx' - loN lo'))) w := by
 unfold execOp; rw [ho]
 simp only [Instr.sliceAt, Sem.run_bind, run_underlying hu, Result.andThen_ok, Instr.slice, hv, run_sliceBounds (optI_of hR h1) (optI_of hR h2) (optI_of hR h3) hg hc, run_sizeT hm, Sem.run_pure]
theorem freeze_good {k : Nat} {ent : Ent} {s : S} {u : Value} (hR : RelSt E w0 own0 st D a.tmps w) (hi : i ∉ D) (hd : i < 4096) (he : st.tb k = some ent)
  (hrun : (execOp a.eval o).run C.P w = .ok (.value u) w)
  (hv : ∀ ok : Ty → Nat → Prop, (∀ t b, E.ok st.tb t b → ok t b) → (∀ t p, E.κ k = some p → ok t p.1) → (∀ t b, ok t b → (E.upd (st.ep * 4096 + i) fun _ => none).ok (st.tb.sets [(k, some ent.freeze)]) t b) → RelV (E.upd (st.ep * 4096 + i) fun _ => none) (st.tb.sets [(k, some ent.freeze)]) w s u)
  (hk : keysOf s = []) : OpGood C.P E w0 own0 st D i o s [(k, some ent.freeze)] a w := by
 have hkt : k / 64 ≠ st.ep * 4096 + i := (hR.keyT k ent he).notFresh hi hd
 have hget : ∀ j, st.tb.sets [(k, some ent.freeze)] j = if j = k then some ent.freeze else st.tb j := by
  intro j
  show (st.tb.set k (some ent.freeze)) j = _
  by_cases hj : j = k
  ·subst hj; rw [set_eq, if_pos rfl]
  ·rw [set_ne _ hj, if_neg hj]
 refine turn_good (C := C) (E' := E.upd (st.ep * 4096 + i) fun _ => none) (w' := w) (u := u) (T := fun _ => False) hR hi hd
  (turn_gen hR hi hd (Nat.le_refl _) rfl rfl rfl (fun _ h => h.elim) (fun b hb _ => rfl) (fun _ _ h => h.elim) ?_ ?_ (by simp)) (.inl hrun) ?_
 ·intro j e' he' hj
  rw [hget] at he'
  by_cases hjk : j = k
  ·subst hjk; rw [if_pos rfl] at he'; cases he'; exact ⟨ent, he, .inl ⟨fun _ _ h => h, .inr rfl⟩⟩
  ·rw [if_neg hjk] at he'; exact ⟨e', he', .inl ⟨fun _ _ h => h, .inl rfl⟩⟩
 ·intro j e' he' hj
  rw [hget, if_neg (fun h => hkt (by rw [← h]; exact hj)), fresh_none hR hi hd hj] at he'
  cases he'
 ·intro M
  refine ⟨hv ((E.upd (st.ep * 4096 + i) fun _ => none).ok (st.tb.sets [(k, some ent.freeze)])) ?_ ?_ (fun _ _ h => h), by rw [hk]; simp⟩
  ·intro ty b hb
   refine ⟨hb.1, fun j q f hq hf hff hqb => ?_⟩
   rw [hget] at hf
   by_cases hj : j / 64 = st.ep * 4096 + i
   ·rw [upd_new hj] at hq; cases hq
   ·rw [upd_old hj] at hq
    by_cases hjk : j = k
    ·rw [if_pos hjk] at hf; cases hf; rw [freeze_fz] at hff; cases hff
    ·rw [if_neg hjk] at hf; exact hb.2 j q f hq hf hff hqb
  ·intro ty p hp
   refine frozen_ok (E' := E.upd (st.ep * 4096 + i) fun _ => none) hR (ty := ty) (e' := ent.freeze) (t := st.ep * 4096 + i) rfl (fun k hk => upd_old hk) ?_ ?_ hkt he hp (by rw [hget, if_pos rfl]) (freeze_fz ent)
   ·intro j e' he' hj
    rw [hget] at he'
    by_cases hjk : j = k
    ·exact ⟨ent, by rw [hjk]; exact he⟩
    ·rw [if_neg hjk] at he'; exact ⟨e', he'⟩
   ·intro j e' q he' hj hq
    rw [upd_new hj] at hq; cases hq
theorem lower_agg {tb : Tbl} {v : S} {ty : Ty} {x : ty.den} (hx : lower tb v ty = some x) : (lift ty x).isAgg = v.isAgg := by
 cases v <;> cases ty <;> simp [lower, lowerL] at hx <;> first | rfl | (rename_i fs; cases fs <;> simp [lowerL] at hx) | skip
 all_goals rfl
theorem pure_good {v : S} {ty : Ty} {x : ty.den} {u : Value} (hR : RelSt E w0 own0 st D a.tmps w) (hi : i ∉ D) (hd : i < 4096) (hl : lower st.tb v ty = some x) (hx : RelV E st.tb w v u)
  (hrun : (execOp a.eval o).run C.P w = .ok (.value u) w) : OpGood C.P E w0 own0 st D i o (lift ty x) (freezes st.tb (ownKeys v)) a w := by
 have hold : ∀ k e', st.tb.sets (freezes st.tb (ownKeys v)) k = some e' → ∃ e, st.tb k = some e ∧ (e' = e ∨ e' = e.freeze) := by
  intro k e' he
  rcases freezes_get st.tb (ownKeys v) k with h | ⟨e1, h1, _, h2⟩
  ·rw [h] at he; exact ⟨e', he, .inl rfl⟩
  ·rw [h2] at he; cases he; exact ⟨e1, h1, .inr rfl⟩
 refine turn_good (C := C) (E' := E.upd (st.ep * 4096 + i) fun _ => none) (w' := w) (u := u) (T := fun _ => False) hR hi hd
  (turn_gen hR hi hd (Nat.le_refl _) rfl rfl rfl (fun _ h => h.elim) (fun b hb _ => rfl) (fun _ _ h => h.elim) ?_ ?_ (by simp)) (.inl hrun) ?_
 ·intro k e' he hk
  obtain ⟨e1, h1, h2⟩ := hold k e' he
  exact ⟨e1, h1, .inl ⟨fun _ _ h => h, h2⟩⟩
 ·intro k e' he hk
  obtain ⟨e1, h1, h2⟩ := hold k e' he
  rw [fresh_none hR hi hd hk] at h1; cases h1
 ·intro M
  have hrt : ∀ {cs : List Value}, Rel E st.tb w v cs → Rt w ((E.upd (st.ep * 4096 + i) fun _ => none).ok (st.tb.sets (freezes st.tb (ownKeys v)))) ty cs x := fun hr =>
   lower_rt (w := w) (w' := w) hR.bufs M.ok M.cell (fun k hk' e1 p he1 hp1 => by
    have hlt := (hR.ent k e1 he1).lt hp1
    have hkt := (hR.keyT k e1 he1).notFresh hi hd
    refine ⟨frozen_ok (E' := E.upd (st.ep * 4096 + i) fun _ => none) hR (e' := e1.freeze) (t := st.ep * 4096 + i) rfl (fun k hk => upd_old hk) ?_ ?_ hkt he1 hp1 (freezes_hit he1 hk') (freeze_fz e1), hlt, fun o v hv => hv⟩
    ·intro j e' he' hj
     obtain ⟨e1, h1, _⟩ := hold j e' he'
     exact ⟨e1, h1⟩
    ·intro j e' q he' hj hq
     rw [upd_new hj] at hq; cases hq) hr hl
  refine ⟨?_, by rw [lift_keys]; simp⟩
  unfold RelV at hx ⊢
  rw [lower_agg hl]
  split
  ·rename_i ha; rw [if_pos ha] at hx; obtain ⟨aa, h3, h4⟩ := hx; exact ⟨aa, h3, Rt.lift (hrt h4)⟩
  ·rename_i ha; rw [if_neg ha] at hx; exact Rt.lift (hrt hx)
theorem opS_assign {x : Operand} (hR : RelSt E w0 own0 st D a.tmps w) (hid : i ∉ D) (ho : o.op = .assign x) (h : opS C o st.ep i (evalS st.sl) st.tb = some r) : OpGood C.P E w0 own0 st D i o r.v r.ef a w := by
 cases hpu : puOf C o.dst with
 | false => exact opS_move hR hid (.inr ho) (fun _ => hpu) h
 | true =>
  have hx := hR.eval x
  have hd := opS_lt h
  unfold opS at h
  rw [ho] at h
  simp only [hd, decide_true, Bool.not_true, Bool.false_eq_true, if_false, hpu, if_true] at h
  have hrun : (execOp a.eval o).run C.P w = .ok (.value (a.eval x)) w := by unfold execOp; rw [ho]; rfl
  split at h <;> try contradiction
  rename_i q hq
  simp only [Option.some.injEq] at h; subst h
  unfold puS at hq
  split at hq <;> try contradiction
  rename_i ty hty
  rw [Option.map_eq_some_iff] at hq
  obtain ⟨y, hy, rfl⟩ := hq
  exact pure_good hR hid hd hy hx hrun
def EcL (w : World) (ok : Nat → Prop) : List EC → List Value → Prop
 | [], cs => cs = []
 | .int n :: r, cs => ∃ q, cs = .int .i64 n :: q ∧ inK .i64 n = true ∧ EcL w ok r q
 | .err x :: r, cs => ∃ v q, cs = v :: q ∧ RtE w ok x [v] ∧ EcL w ok r q
theorem EcL.append {w : World} {ok : Nat → Prop} : ∀ {l m : List EC} {c d : List Value}, EcL w ok l c → EcL w ok m d → EcL w ok (l ++ m) (c ++ d)
 | [], m, c, d, h, k => by cases h; exact k
 | .int n :: l, m, c, d, h, k => by
  obtain ⟨q, rfl, h1, h2⟩ := h
  exact ⟨q ++ d, rfl, h1, h2.append k⟩
 | .err x :: l, m, c, d, h, k => by
  obtain ⟨v, q, rfl, h1, h2⟩ := h
  exact ⟨v, q ++ d, rfl, h1, h2.append k⟩
mutual
theorem errC_rel {E : Env} {tb : Tbl} {w : World} : ∀ {s : S} {es : List EC} {cs : List Value}, errC s = some es → Rel E tb w s cs → EcL w (E.ok tb .err) es cs
 | .int k n, es, cs, h, hr => by
  cases k <;> simp [errC] at h
  subst h
  obtain ⟨rfl, hk⟩ := hr
  exact ⟨[], rfl, hk, rfl⟩
 | .err x, es, cs, h, hr => by
  simp only [errC, Option.some.injEq] at h
  subst h
  have hr : RtE w (E.ok tb .err) x cs := hr
  obtain ⟨v, rfl, _⟩ := RtE.one hr
  exact ⟨v, [], rfl, hr, rfl⟩
 | .st fs, es, cs, h, hr => by
  simp only [errC] at h
  simp only [Rel] at hr
  exact errCL_rel h hr
 | .junk, es, cs, h, hr | .bool _, es, cs, h, hr | .str _, es, cs, h, hr | .sl .., es, cs, h, hr | .nilsl, es, cs, h, hr | .arr .., es, cs, h, hr | .own .., es, cs, h, hr | .twn .., es, cs, h, hr | .ptr .., es, cs, h, hr | .nilp, es, cs, h, hr | .iref .., es, cs, h, hr | .gptr .., es, cs, h, hr | .fn .., es, cs, h, hr | .nilfn, es, cs, h, hr | .iface .., es, cs, h, hr | .nili, es, cs, h, hr | .mp _, es, cs, h, hr | .nilmp, es, cs, h, hr | .tup _, es, cs, h, hr => by simp [errC] at h
theorem errCL_rel {E : Env} {tb : Tbl} {w : World} : ∀ {l : List S} {es : List EC} {cs : List Value}, errCL l = some es → RelL E tb w l cs → EcL w (E.ok tb .err) es cs
 | [], es, cs, h, hr => by
  simp only [errCL, Option.some.injEq] at h
  subst h; exact hr
 | f :: r, es, cs, h, hr => by
  simp only [errCL] at h
  obtain ⟨c1, c2, rfl, h1, h2⟩ := hr
  split at h <;> try contradiction
  rename_i x y hx hy
  simp only [Option.some.injEq] at h
  subst h
  exact (errC_rel hx h1).append (errCL_rel hy h2)
end
theorem intsEC_rel {w : World} {ok : Nat → Prop} : ∀ {es : List EC} {xs : List Int} {cs : List Value}, intsEC es = some xs → EcL w ok es cs → cs = intsV xs ∧ ∀ n ∈ xs, inK .i64 n = true
 | [], xs, cs, h, k => by
  simp only [intsEC, Option.some.injEq] at h
  subst h; cases k; exact ⟨rfl, by simp⟩
 | .int n :: r, xs, cs, h, k => by
  simp only [intsEC, Option.map_eq_some_iff] at h
  obtain ⟨ys, h1, rfl⟩ := h
  obtain ⟨q, rfl, k1, k2⟩ := k
  obtain ⟨q1, q2⟩ := intsEC_rel h1 k2
  refine ⟨by rw [q1]; rfl, fun m hm => ?_⟩
  rcases List.mem_cons.1 hm with rfl | hm
  ·exact k1
  ·exact q2 m hm
 | .err x :: r, xs, cs, h, k => by simp [intsEC] at h
theorem errN_rel {w : World} {ok ok' : Nat → Prop} {t b : Nat} (hok : ∀ b, ok b → ok' b) (hb : ok' b) (hlt : b < w.heap.size) : ∀ {es : List EC} {pre : List Int} {cs : List Value} {e : Err}, errN t pre es = some e → (∀ n ∈ pre, inK .i64 n = true) → Lies w b 0 (intsV pre ++ cs) → EcL w ok es cs →
  RtE w ok' e [.iface t (.pointer (some ⟨b, 0, none⟩))]
 | [], pre, cs, e, h, hp, hl, k => by
  simp only [errN, Option.some.injEq] at h
  subst h; cases k
  exact ⟨b, rfl, hb, hlt, hp, by simpa using hl⟩
 | .int n :: r, pre, cs, e, h, hp, hl, k => by
  simp only [errN] at h
  obtain ⟨q, rfl, k1, k2⟩ := k
  refine errN_rel hok hb hlt (es := r) (pre := pre ++ [n]) (cs := q) h (fun m hm => ?_) ?_ k2
  ·rcases List.mem_append.1 hm with hm | hm
   ·exact hp m hm
   ·rw [List.mem_singleton.1 hm]; exact k1
  ·simpa [intsV] using hl
 | .err x :: r, pre, cs, e, h, hp, hl, k => by
  simp only [errN, Option.map_eq_some_iff] at h
  obtain ⟨post, h1, rfl⟩ := h
  obtain ⟨v, q, rfl, k1, k2⟩ := k
  obtain ⟨rfl, q2⟩ := intsEC_rel h1 k2
  refine ⟨b, v, rfl, hb, hlt, fun m hm => ?_, hl, RtE.mono (fun b h1 h2 => ⟨hok b h1, h2⟩) (fun _ _ _ _ h => h) k1⟩
  rcases List.mem_append.1 hm with hm | hm
  ·exact hp m hm
  ·exact q2 m hm
theorem opS_makeInterface {t : TypeId} {x : Operand} (hR : RelSt E w0 own0 st D a.tmps w) (hid : i ∉ D) (ho : o.op = .makeInterface t x) (h : opS C o st.ep i (evalS st.sl) st.tb = some r) :
  OpGood C.P E w0 own0 st D i o r.v r.ef a w := by
 have hd := opS_lt h
 have hx := hR.eval x
 have hk := hR.evalKeys x
 unfold opS at h
 rw [ho] at h
 simp only [hd, decide_true, Bool.not_true, Bool.false_eq_true, if_false] at h
 have hrun : concT C.P t = true → (execOp a.eval o).run C.P w = .ok (.value (.iface t (a.eval x))) w := by
  intro hc
  unfold concT at hc
  unfold execOp; rw [ho]
  simp only [Instr.makeInterface, Sem.run_bind, underlying, run_program, Result.andThen_ok]
  cases hu : C.P.underlying t with
  | none => simp [hu] at hc
  | some d => rw [hu] at hc; cases d <;> simp at hc ⊢
 split at h
 ·rename_i p hp
  split at h <;> try contradiction
  rename_i hc
  simp only [Option.some.injEq] at h; subst h
  unfold errOf at hp
  split at hp <;> try contradiction
  rename_i k hs
  split at hp <;> try contradiction
  rename_i fs fz hent
  rw [Option.map_eq_some_iff] at hp
  obtain ⟨e, he, rfl⟩ := hp
  obtain ⟨es, he1, he2⟩ := Option.bind_eq_some_iff.1 he
  rw [hs] at hx
  rw [relV_scalar rfl] at hx
  simp only [Rel, hent] at hx
  obtain ⟨_, b, o', hκ, hv⟩ := hx
  obtain ⟨b', cs, h1, h2, h3, h4, _, _, _⟩ := hR.ent k _ hent
  rw [hκ] at h1
  simp only [Option.some.injEq, Prod.mk.injEq] at h1
  obtain ⟨rfl, rfl⟩ := h1
  have hv : a.eval x = .pointer (some ⟨b, 0, none⟩) := by simpa [offE, offS] using hv
  have := freeze_good (C := C) (s := .err e) hR hid hd hent (by rw [hrun hc, hv]) (fun ok hok hkok hfin => by
   rw [relV_scalar rfl]
   have h4 : RelL E st.tb w fs cs := by simpa [Rel] using h4
   exact RtE.mono (fun b h1 h2 => ⟨hfin _ b h1, h2⟩) (fun _ _ _ _ h => h) (errN_rel (pre := []) (hok _) (hkok _ _ hκ) h2 he2 (by simp) (by simpa [intsV] using h3) (errCL_rel he1 h4))) rfl
  simpa [freezes, hent] using this
 simp only [Option.ite_none_right_eq_some, Bool.and_eq_true] at h
 obtain ⟨⟨hp, hc⟩, h⟩ := h
 simp [ok] at h; subst h
 refine OpGood.value hR (u := .iface t (a.eval x)) ?_ ?_ (by simpa [keysOf] using hk)
 ·exact hrun hc
 ·rw [relV_scalar rfl]
  exact ⟨a.eval x, rfl, hx⟩
theorem rehome_good {k : Nat} {e : Ty} {xs ys : List e.den} {q : Option (Nat × Nat)} {w' : World} {u : Value} (hR : RelSt E w0 own0 st D a.tmps w) (hi : i ∉ D) (hd : i < 4096) (he : st.tb k = some (.buf e xs false))
  (hsz : w.heap.size ≤ w'.heap.size) (hos : w'.os = w.os) (htp : w'.tape = w.tape) (hou : w'.output = w.output)
  (hblk : ∀ b', b' < w.heap.size → (¬ ∃ p, E.κ k = some p ∧ p.1 = b') → w'.heap[b']? = w.heap[b']?)
  (hcell : ∀ b' o, (∃ p, E.κ k = some p ∧ p.1 = b') → ((w.cell? ⟨b', o, none⟩).isSome → (w'.cell? ⟨b', o, none⟩).isSome) ∧ ((w'.cell? ⟨b', o, none⟩).isSome → (w.cell? ⟨b', o, none⟩).isSome))
  (hq : ∀ p, q = some p → w.heap.size ≤ p.1 ∨ ∃ p0, E.κ k = some p0 ∧ p0.1 = p.1)
  (hrun : (execOp a.eval o).run C.P w = .ok (.value u) w')
  (hent : Moves (fun k => k / 64 = st.ep * 4096 + i) E st.tb w (E.upd (st.ep * 4096 + i) fun j => if j = 0 then q else none) (st.tb.sets [(k, none), (mk st.ep i 0, some (.buf e ys false))]) w' →
   RelE (E.upd (st.ep * 4096 + i) fun j => if j = 0 then q else none) (st.tb.sets [(k, none), (mk st.ep i 0, some (.buf e ys false))]) w' (mk st.ep i 0) (.buf e ys false))
  (hval : ∃ p cap, u = .slice p ys.length cap ∧ ys.length ≤ cap ∧ match q with
   | some (b, o) => p = some ⟨b, o, none⟩ ∧ (∀ i, i < cap * e.size → (w'.cell? ⟨b, o + i, none⟩).isSome) ∧ cap ≤ CAPM
   | none => cap = 0) :
  OpGood C.P E w0 own0 st D i o (.own e (mk st.ep i 0)) [(k, none), (mk st.ep i 0, some (.buf e ys false))] a w := by
 have hkt : k / 64 ≠ st.ep * 4096 + i := (hR.keyT k _ he).notFresh hi hd
 have hm0 : mk st.ep i 0 / 64 = st.ep * 4096 + i := mk_div _ _ _ (by omega)
 have hkm : k ≠ mk st.ep i 0 := fun h => hkt (by rw [h]; exact hm0)
 have hget : ∀ j, st.tb.sets [(k, none), (mk st.ep i 0, some (.buf e ys false))] j = if j = mk st.ep i 0 then some (.buf e ys false) else if j = k then none else st.tb j := by
  intro j
  show ((st.tb.set k none).set (mk st.ep i 0) (some (.buf e ys false))) j = _
  by_cases hj : j = mk st.ep i 0
  ·subst hj; rw [set_eq, if_pos rfl]
  ·rw [set_ne _ hj, if_neg hj]
   by_cases hjk : j = k
   ·subst hjk; rw [set_eq, if_pos rfl]
   ·rw [set_ne _ hjk, if_neg hjk]
 refine turn_good (C := C) (E' := E.upd (st.ep * 4096 + i) fun j => if j = 0 then q else none) (w' := w') (u := u) (T := fun b' => ∃ p, E.κ k = some p ∧ p.1 = b') hR hi hd
  (turn_gen hR hi hd hsz hos htp hou ?_ hblk hcell ?_ ?_ ?_) (.inl hrun) ?_
 ·rintro b' ⟨p, h1, h2⟩; exact ⟨k, p, _, h1, he, rfl, h2⟩
 ·intro j e' he' hj
  have hjm : j ≠ mk st.ep i 0 := fun h => hj (by rw [h]; exact hm0)
  rw [hget, if_neg hjm] at he'
  by_cases hjk : j = k
  ·rw [if_pos hjk] at he'; cases he'
  ·rw [if_neg hjk] at he'
   refine ⟨e', he', .inl ⟨fun p hp => ?_, .inl rfl⟩⟩
   rintro ⟨p0, h1, h2⟩
   exact hjk (hR.inj j k p p0 e' _ hp h1 he' he h2.symm)
 ·intro j e' he' hj
  rw [hget] at he'
  by_cases hjm : j = mk st.ep i 0
  ·rw [if_pos hjm] at he'; cases he'
   subst hjm
   refine ⟨fun M => ⟨hent M, by simp [Ent.keys]⟩, fun p hp => ?_⟩
   rw [mk_mod _ _ _ (by omega), if_pos rfl] at hp
   rcases hq p hp with h | ⟨p0, h1, h2⟩
   ·exact .inl h
   ·exact .inr ⟨k, p0, _, h1, h2, he, fun _ => rfl, by rw [hget, if_neg hkm, if_pos rfl]⟩
  ·rw [if_neg hjm, if_neg (fun h => hkt (by rw [← h]; exact hj)), fresh_none hR hi hd hj] at he'
   cases he'
 ·intro j k p q h1 h2 _; split at h1 <;> split at h2 <;> first | omega | (simp at h1 h2)
 ·intro M
  refine ⟨?_, fun k hk' => by simp [keysOf] at hk'; subst hk'; exact mk_known (by omega)⟩
  rw [relV_scalar rfl]
  simp only [Rel, hget, if_true]
  rw [upd_new hm0, mk_mod _ _ _ (by omega), if_pos rfl]
  obtain ⟨p, cap, rfl, h1, h2⟩ := hval
  exact ⟨p, cap, rfl, h1, h2⟩
theorem opS_slice {t : TypeId} {x : Operand} {lo hi mx : Option Operand} (hR : RelSt E w0 own0 st D a.tmps w) (hid : i ∉ D) (ho : o.op = .slice t x lo hi mx)
  (h : opS C o st.ep i (evalS st.sl) st.tb = some r) (hg : ∀ g ∈ r.g, g = true) : OpGood C.P E w0 own0 st D i o r.v r.ef a w := by
 have hd := opS_lt h
 have hx := hR.eval x
 have hxk := hR.evalKeys x
 unfold opS at h
 rw [ho] at h
 simp only [hd, decide_true, Bool.not_true, Bool.false_eq_true, if_false] at h
 split at h <;> try contradiction
 rename_i lo' hi' mx' h1 h2 h3
 split at h <;> try contradiction
 ·-- a text
  rename_i s hu hs
  rw [hs] at hx
  split at h <;> try contradiction
  rename_i hmx
  simp only [Option.some.injEq] at h; subst h
  obtain ⟨bs, hv, rfl, hl⟩ := relV_str.1 hx
  cases mx' with
  | some m => simp at hmx
  | none =>
   have hmx2 : mx = none := by
    cases mx with
    | none => rfl
    | some y => simp [asIO] at h3
   subst hmx2
   rw [bytesL_length] at hg
   obtain ⟨g1, g2, g3, g4, g5, g6⟩ := subG_spec hg
   have hb := run_sliceBounds (P := C.P) (w := w) (isS := false) (cap := bs.size) (optI_of hR h1) (optI_of hR h2) (mxv := none) (mx := none) trivial hg (Nat.le_refl _)
   obtain ⟨q1, q2⟩ := sub_spec (bytesL bs) lo' hi' (by rw [bytesL_length]; exact g2) (by rw [bytesL_length]; exact g1)
   have heq : sub (bytesL bs) lo' hi' = bytesL (bs.extract (loN lo') (hiN bs.size hi')) := by
    have hd : (bs.extract (loN lo') (hiN bs.size hi')).data.toList = (bs.data.toList.drop (loN lo')).take (hiN bs.size hi' - loN lo') := by
     rw [ByteArray.data_extract, Array.toList_extract, List.extract_eq_take_drop]
    rw [sub_take _ _ _ bs.size (bytesL_length bs).symm]
    unfold bytesL
    rw [hd, List.map_take, List.map_drop]
   refine OpGood.value hR (u := .string (bs.extract (loN lo') (hiN bs.size hi'))) ?_ (relV_str.2 ⟨_, rfl, heq, by rw [q1, bytesL_length]; rw [bytesL_length] at hl; omega⟩) (by simp [keysOf])
   unfold execOp; rw [ho]
   simp only [Instr.sliceAt, Sem.run_bind, run_underlying hu, Result.andThen_ok, Instr.slice, hv, Option.map_none, Option.isSome_none, Bool.false_eq_true, if_false, Sem.run_pure, hb]
 ·-- a slice that is read
  rename_i et e xs hu hs
  rw [hs, relV_scalar rfl] at hx
  obtain ⟨p, cap, hv, hc1, hc2, hc3⟩ := hx
  have hv := (List.cons.inj hv).1
  split at h <;> try contradiction
  rename_i hcells
  have key : ∀ r, ((r = (⟨subG xs.length lo' hi' mx', .nilsl, []⟩ : OpR) ∧ hi' = some 0 ∧ mx' = some 0) ∨ r = ⟨subG xs.length lo' hi' mx', .sl e (sub xs lo' hi'), []⟩) → (∀ g ∈ r.g, g = true) → OpGood C.P E w0 own0 st D i o r.v r.ef a w := by
   rintro r (⟨rfl, rfl, rfl⟩ | rfl) hg
   ·obtain ⟨g1, g2, g3, g4, g5, g6⟩ := subG_spec hg
    have hrun := run_slice_of (o := o) (C := C) hR ho h1 h2 h3 hu hcells hv hg hc1
    refine OpGood.value hR hrun ?_ (by simp [keysOf])
    rw [relV_scalar rfl]
    simp [hiN, mxN] at g1 ⊢
    simp [Rel, g1]
   ·obtain ⟨g1, g2, g3, g4, g5, g6⟩ := subG_spec hg
    have hrun := run_slice_of (o := o) (C := C) hR ho h1 h2 h3 hu hcells hv hg hc1
    obtain ⟨q1, q2⟩ := sub_spec xs lo' hi' g2 g1
    refine OpGood.value hR hrun ?_ (by simp [keysOf])
    rw [relV_scalar rfl]
    have hhm : hiN xs.length hi' ≤ mxN cap mx' := by
     cases mx' with
     | none => simp only [mxN]; omega
     | some m => have := (g3 rfl).2.1; simpa [mxN] using this
    refine ⟨_, _, by rw [q1], by rw [q1]; omega, by rw [q1]; omega, ?_⟩
    by_cases hml : mxN cap mx' = loN lo'
    ·left; apply List.eq_nil_of_length_eq_zero; omega
    ·rcases hc3 with hc3 | ⟨b, off, rfl, hok, hb, hrow⟩
     ·have hl0 : xs.length = 0 := by rw [hc3]; rfl
      left; apply List.eq_nil_of_length_eq_zero; omega
     ·exact .inr ⟨b, off + loN lo' * e.size, by rw [if_neg hml]; simp [addr_add], hok, hb, Row.sub hrow g2 g1⟩
  cases hzz : cz0 hi && cz0 mx with
  | true =>
   rw [hzz] at h
   simp only [cond_true] at h
   split at h <;> try contradiction
   simp only [Option.some.injEq] at h; subst h
   exact key _ (.inl ⟨rfl, rfl, rfl⟩) hg
  | false =>
   rw [hzz] at h
   simp only [cond_false, Option.some.injEq] at h; subst h
   exact key _ (.inr rfl) hg
 ·-- nil
  rename_i et hu hs
  rw [hs, relV_scalar rfl] at hx
  obtain ⟨p, hv⟩ := hx
  have hv := (List.cons.inj hv).1
  split at h <;> try contradiction
  rename_i hcells
  obtain ⟨m, hm⟩ := Option.isSome_iff_exists.1 hcells
  simp only [Option.some.injEq] at h; subst h
  have hg : ∀ g ∈ subG ((0 : Nat) : Int) lo' hi' mx', g = true := hg
  obtain ⟨g1, g2, g3, g4, g5, g6⟩ := subG_spec hg
  have hlo : loN lo' = 0 := by omega
  have hhi : hiN 0 hi' = 0 := by omega
  have hmx : mxN 0 mx' = 0 := by
   cases mx' with
   | none => rfl
   | some m => have := (g3 rfl).2.2; omega
  have hrun := run_slice_of (o := o) (C := C) hR ho h1 h2 h3 hu hm hv hg (Nat.le_refl _)
  refine OpGood.value hR hrun ?_ (by simp [keysOf])
  rw [relV_scalar rfl, hlo, hhi, hmx]
  exact ⟨p, by simp⟩
 ·-- a slice of one's own
  rename_i et e0 k hu hs
  rw [hs, relV_scalar rfl] at hx
  simp only [Rel] at hx
  split at h <;> try contradiction
  rename_i e xs fz he
  rw [he] at hx
  obtain ⟨p, cap, hv, hc1, hc2⟩ := hx
  have hv := (List.cons.inj hv).1
  obtain ⟨hxl, hent⟩ := hR.ent k _ he
  split at h <;> try contradiction
  rename_i hcells
  have hcap0 : E.κ k = none → cap = 0 := by intro h; rw [h] at hc2; exact hc2
  have hxs0 : E.κ k = none → xs = [] := by intro h; rw [h] at hent; exact hent
  split at h
  ·-- it is moved
   split at h <;> try contradiction
   rename_i hfz
   simp only [Bool.or_eq_true, not_or, Bool.not_eq_true, Option.isSome_eq_false_iff, Option.isNone_iff_eq_none] at hfz
   obtain ⟨rfl, hmx⟩ := hfz
   subst hmx
   simp only [Option.some.injEq] at h; subst h
   obtain ⟨g1, g2, g3, g4, g5, g6⟩ := subG_spec hg
   have hrun := run_slice_of (o := o) (C := C) hR ho h1 h2 h3 hu hcells hv hg hc1
   obtain ⟨q1, q2⟩ := sub_spec xs lo' hi' g2 g1
   have hmn : mxN cap none = cap := rfl
   obtain ⟨q, hqq⟩ : ∃ q, q = (E.κ k).map fun p => if cap = loN lo' then p else (p.1, p.2 + loN lo' * e.size) := ⟨_, rfl⟩
   have hl0 : E.κ k = none → xs.length = 0 := fun h => by rw [hxs0 h]; rfl
   refine rehome_good (q := q) hR hid hd he (Nat.le_refl _) rfl rfl rfl (fun _ _ _ => rfl) (fun _ _ _ => ⟨id, id⟩) ?_ hrun ?_ ?_
   ·intro p hp
    rw [hqq] at hp
    obtain ⟨p0, h1, rfl⟩ := Option.map_eq_some_iff.1 hp
    exact .inr ⟨p0, h1, by split <;> rfl⟩
   ·intro M
    refine ⟨by rw [q1]; omega, ?_⟩
    rw [upd_new (mk_div _ _ _ (by omega)), mk_mod _ _ _ (by omega), if_pos rfl]
    cases q with
    | none =>
     have hκ := Option.map_eq_none_iff.1 hqq.symm
     apply List.eq_nil_of_length_eq_zero; have := hl0 hκ; rw [q1]; omega
    | some pq =>
     obtain ⟨⟨b, off⟩, hκ, hpq⟩ := Option.map_eq_some_iff.1 hqq.symm
     rw [hκ] at hent
     have hrow : Row w (E.ok st.tb) e b (off + loN lo' * e.size) (sub xs lo' hi') := Row.sub hent.2.2.2 g2 g1
     by_cases hcl : cap = loN lo'
     ·rw [if_pos hcl] at hpq
      subst hpq
      have hnil : (sub xs lo' hi').length = 0 := by omega
      exact ⟨hent.1, hent.2.1, fun _ => hent.2.2.1 rfl, fun j hj => by omega⟩
     ·rw [if_neg hcl] at hpq
      subst hpq
      refine ⟨hent.1, hent.2.1, fun _ => hent.2.2.1 rfl, fun j hj => ?_⟩
      obtain ⟨ecs, r1, r2⟩ := hrow j hj
      exact ⟨ecs, r1, M.rt r2⟩
   ·refine ⟨_, _, by rw [q1], by rw [q1]; omega, ?_⟩
    cases q with
    | none =>
     have hκ := Option.map_eq_none_iff.1 hqq.symm
     have := hcap0 hκ
     show mxN cap none - loN lo' = 0
     omega
    | some pq =>
     obtain ⟨⟨b, off⟩, hκ, hpq⟩ := Option.map_eq_some_iff.1 hqq.symm
     rw [hκ] at hc2
     obtain ⟨rfl, hcc, hcm⟩ := hc2
     by_cases hcl : cap = loN lo'
     ·rw [if_pos hcl] at hpq
      subst hpq
      rw [if_pos (show mxN cap none = loN lo' from hcl)]
      refine ⟨rfl, fun j hj => ?_, by rw [hmn]; omega⟩
      rw [hmn, hcl, Nat.sub_self, Nat.zero_mul] at hj; omega
     ·rw [if_neg hcl] at hpq
      subst hpq
      rw [if_neg (show ¬ mxN cap none = loN lo' from hcl)]
      refine ⟨by simp [addr_add], fun j hj => ?_, by rw [hmn]; omega⟩
      rw [hmn] at hj
      have := hcc (loN lo' * e.size + j) (by
       have h3 : cap * e.size = (cap - loN lo') * e.size + loN lo' * e.size := by rw [← Nat.add_mul]; congr 1; omega
       omega)
      rwa [← Nat.add_assoc] at this
  ·-- it is read
   simp only [Option.some.injEq] at h; subst h
   obtain ⟨g1, g2, g3, g4, g5, g6⟩ := subG_spec hg
   have hrun := run_slice_of (o := o) (C := C) hR ho h1 h2 h3 hu hcells hv hg hc1
   obtain ⟨q1, q2⟩ := sub_spec xs lo' hi' g2 g1
   refine freeze_good (ent := .buf e xs fz) hR hid hd he hrun ?_ (by simp [keysOf])
   intro ok k1 k2 k3
   rw [relV_scalar rfl]
   have hhm : hiN xs.length hi' ≤ mxN cap mx' := by
    cases mx' with
    | none => simp only [mxN]; omega
    | some m => have := (g3 rfl).2.1; simpa [mxN] using this
   refine ⟨_, _, by rw [q1], by rw [q1]; omega, by rw [q1]; omega, ?_⟩
   by_cases hml : mxN cap mx' = loN lo'
   ·left; apply List.eq_nil_of_length_eq_zero; omega
   ·cases hκ : E.κ k with
    | none =>
     have hl0 : xs.length = 0 := by rw [hxs0 hκ]; rfl
     left; apply List.eq_nil_of_length_eq_zero; omega
    | some p0 =>
     obtain ⟨b, off⟩ := p0
     rw [hκ] at hc2 hent
     obtain ⟨rfl, hcc⟩ := hc2
     refine .inr ⟨b, off + loN lo' * e.size, by rw [if_neg hml]; simp [addr_add], k3 _ b (k2 _ _ hκ), hent.1, fun j hj => ?_⟩
     obtain ⟨ecs, r1, r2⟩ := Row.sub (lo := lo') (hi := hi') hent.2.2.2 g2 g1 j hj
     exact ⟨ecs, r1, Rt.mono (fun t b hb hlt => ⟨k3 t b (k1 t b hb), hlt⟩) (fun _ _ _ _ _ h => h) r2⟩
 ·-- a slice of one's own with its room in sight
  rename_i et e0 k m hu hs
  rw [hs, relV_scalar rfl] at hx
  simp only [Rel] at hx
  split at h <;> try contradiction
  rename_i e xs fz he
  rw [he] at hx
  obtain ⟨b, off, hκ, n0, ⟨n1, n2⟩, hv⟩ := hx
  have hv := (List.cons.inj hv).1
  split at h <;> try contradiction
  rename_i hcells
  split at h <;> try contradiction
  rename_i hh
  simp only [Option.some.injEq] at h; subst h
  simp only [List.mem_cons, List.not_mem_nil, or_false, forall_eq_or_imp, decide_eq_true_eq, forall_eq] at hg
  have hb := run_sliceBounds (P := C.P) (w := w) (isS := true) (n := xs.length) (cap := xs.length) (optI_of hR h1) (optI_of hR h2) (optI_of hR h3) (by simp [subG]; exact hg) (Nat.le_refl _)
  have hb' : (Instr.sliceBounds true m.toNat xs.length (lo.map a.eval) (hi.map a.eval) (mx.map a.eval)).run C.P w = .ok (0, hh.toNat, xs.length) w := by
   have hlo : lo = none := by
    cases lo with
    | none => rfl
    | some y => simp [asIO] at h1
   have hmx : mx = none := by
    cases mx with
    | none => rfl
    | some y => simp [asIO] at h3
   subst hlo hmx
   cases hi with
   | none => simp [asIO] at h2
   | some y =>
    have key : ∀ n v, Instr.sliceBounds true n xs.length none (some v) none = Instr.sliceBounds true xs.length xs.length none (some v) none := fun n v => rfl
    rw [Option.map_some, Option.map_none] at hb ⊢
    rw [key]
    exact hb
  refine OpGood.value hR (u := .slice (some ⟨b, off, none⟩) hh.toNat xs.length) ?_ ?_ (by rw [hs] at hxk; simpa [keysOf] using hxk)
  ·unfold execOp; rw [ho]
   simp only [Instr.sliceAt, Sem.run_bind, run_underlying hu, Result.andThen_ok, Instr.slice, hv, hb', run_sizeT hcells, Sem.run_pure]
   simp [addr_add]
  ·rw [relV_scalar rfl]
   simp only [Rel, he]
   exact ⟨b, off, hκ, hg.1, ⟨by omega, n2⟩, rfl⟩
 ·-- an array
  rename_i n et k hu hs
  split at h <;> try contradiction
  rename_i n' e xs fz he
  split at h <;> try contradiction
  rename_i hc
  simp only [Bool.and_eq_true, decide_eq_true_eq, beq_iff_eq, Option.isNone_iff_eq_none] at hc
  obtain ⟨⟨⟨⟨⟨rfl, hn⟩, hcells⟩, rfl⟩, rfl⟩, rfl⟩ := hc
  simp only [Option.some.injEq] at h; subst h
  rw [hs, relV_scalar rfl] at hx
  simp only [Rel, he] at hx
  obtain ⟨_, b, off, hκ, hv⟩ := hx
  have hv := (List.cons.inj hv).1
  obtain ⟨b', cs, hκ', hbl, hlies, hrel, _⟩ := hR.ent k _ he
  rw [hκ] at hκ'; cases hκ'
  have hb := run_sliceBounds (P := C.P) (w := w) (isS := false) (n := n) (cap := n) (optI_of hR h1) (optI_of hR h2) (optI_of hR h3) (by simp [subG]) (Nat.le_refl _)
  refine freeze_good (ent := .box (.arr n e xs) fz) (u := .slice (some ⟨b, 0, none⟩) n n) hR hid hd he ?_ ?_ (by simp [keysOf])
  ·unfold execOp; rw [ho]
   simp only [Instr.sliceAt, Sem.run_bind, run_underlying hu, Result.andThen_ok, hv, Instr.sureAddr, Sem.run_pure, hb, run_sizeT hcells, loN, hiN, mxN, offE, offS]
   simp [addr_add]
  ·intro ok k1 k2 k3
   rw [relV_scalar rfl]
   have hxl : xs.length = n := hrel.1
   refine ⟨some ⟨b, 0, none⟩, n, by rw [hxl], by omega, by unfold MAXL; omega, .inr ⟨b, 0, rfl, k3 _ b (k2 _ _ hκ), hbl, fun j hj => ?_⟩⟩
   obtain ⟨ecs, r1, r2⟩ := Rt.row (n := n) hrel hlies j hj
   exact ⟨ecs, r1, Rt.mono (fun t b hb hlt => ⟨k3 t b (k1 t b hb), hlt⟩) (fun _ _ _ _ _ h => h) r2⟩
 ·-- an array that is a field
  rename_i n et k f hu hs
  split at h <;> try contradiction
  rename_i fs fz he
  split at h <;> try contradiction
  rename_i n' e xs hf
  split at h <;> try contradiction
  rename_i hc
  simp only [Bool.and_eq_true, decide_eq_true_eq, beq_iff_eq, Option.isNone_iff_eq_none] at hc
  obtain ⟨⟨⟨⟨⟨rfl, hn⟩, hcells⟩, rfl⟩, rfl⟩, rfl⟩ := hc
  simp only [Option.some.injEq] at h; subst h
  rw [hs, relV_scalar rfl] at hx
  simp only [Rel, he] at hx
  obtain ⟨_, b, off, hκ, hv⟩ := hx
  have hv := (List.cons.inj hv).1
  obtain ⟨b', cs, hκ', hbl, hlies, hrel, _⟩ := hR.ent k _ he
  rw [hκ] at hκ'; cases hκ'
  simp only [Rel] at hrel
  obtain ⟨ds, s1, s2⟩ := RelL.get hrel hf
  have hb := run_sliceBounds (P := C.P) (w := w) (isS := false) (n := n) (cap := n) (optI_of hR h1) (optI_of hR h2) (optI_of hR h3) (by simp [subG]) (Nat.le_refl _)
  refine freeze_good (ent := .box (.st fs) fz) (u := .slice (some ⟨b, offL fs f, none⟩) n n) hR hid hd he ?_ ?_ (by simp [keysOf])
  ·unfold execOp; rw [ho]
   simp only [Instr.sliceAt, Sem.run_bind, run_underlying hu, Result.andThen_ok, hv, Instr.sureAddr, Sem.run_pure, hb, run_sizeT hcells, loN, hiN, mxN, offE, offS, hf]
   simp [addr_add]
  ·intro ok k1 k2 k3
   rw [relV_scalar rfl]
   have hxl : xs.length = n := s2.1
   have hl2 := s1.lies hlies
   rw [Nat.zero_add] at hl2
   refine ⟨some ⟨b, offL fs f, none⟩, n, by rw [hxl], by omega, by unfold MAXL; omega, .inr ⟨b, offL fs f, rfl, k3 _ b (k2 _ _ hκ), hbl, fun j hj => ?_⟩⟩
   obtain ⟨ecs, r1, r2⟩ := Rt.row (n := n) s2 hl2 j hj
   exact ⟨ecs, r1, Rt.mono (fun t b hb hlt => ⟨k3 t b (k1 t b hb), hlt⟩) (fun _ _ _ _ _ h => h) r2⟩
end
end Go.Ab
