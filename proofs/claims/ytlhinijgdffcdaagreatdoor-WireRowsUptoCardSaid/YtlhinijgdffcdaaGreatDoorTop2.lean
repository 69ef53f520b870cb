/- From what a function does to what its row says. -/
import Derived.Test.YtlhinijgdffcdaaGreatDoorTop1
namespace Go.Ab
open Go Go.ChangeShapes
set_option linter.unusedVariables false
set_option linter.unusedSimpArgs false
def aggTy : Ty → Bool
 | .arr .. | .unit | .pair .. | .rose _ => true
 | _ => false
abbrev Arg := (t : Ty) × t.den
def liftA (a : Arg) : S := lift a.1 a.2
def LawOk (P : Program) (gl : Nat → Option S) (f : FuncId) (tys : List Ty) (N : Nat) : Prop :=
 ∀ as : List Arg, as.map (·.1) = tys → (∀ a ∈ as, okT a.1 a.2) → (as.map fun a => bulkT a.1 a.2).sum ≤ N → ∃ es', FnOk P gl f 0 (as.map liftA) [] (.bool true) es'
def tysOf (P : Program) : List TypeId → Option (List Ty)
 | [] => some []
 | t :: r =>
  match tyOf P FUEL t, tysOf P r with
  | some a, some b => if a.noErr then some (a :: b) else none
  | _, _ => none
section
variable {H : Type} {enc : TypeId × Value → H} {P : Program} {w : World} {base : Nat} {spare : Nat → Bool} {held : Bool} {T : TypeId → Prop}
theorem lift_aggM (ty : Ty) (x : ty.den) : (lift ty x).isAgg = aggTy ty := by
 cases ty <;> simp [lift, S.isAgg, aggTy]
theorem ok_scalar {t : TypeId} {v : Value} {r : Reach} (hu : ∀ fs, P.underlying t ≠ some (.struct fs)) (ha : ∀ n e, P.underlying t ≠ some (.array n e)) (h : Value.okWide P w r base t v) : ∀ a, v ≠ .agg a := by
 rintro a rfl
 unfold Value.okWide at h
 split at h
 ·rename_i fs hq; exact hu fs hq
 ·rename_i n e hq; exact ha n e hq
 ·unfold Cell.okWide at h
  split at h <;> try (simp_all; done)
  unfold Cell.ok at h
  split at h <;> simp_all
theorem tyOf_agg {n : Nat} {t : TypeId} {ty : Ty} (h : tyOf P n t = some ty) :
  ((∃ m e, ty = .arr m e) ∧ ∃ m e, P.underlying t = some (.array m e)) ∨ ((ty = .unit ∨ (∃ a b, ty = .pair a b) ∨ ∃ a, ty = .rose a) ∧ ∃ fs, P.underlying t = some (.struct fs)) ∨
   (aggTy ty = false ∧ (∀ fs, P.underlying t ≠ some (.struct fs)) ∧ ∀ n e, P.underlying t ≠ some (.array n e)) := by
 cases n with
 | zero => simp [tyOf] at h
 | succ n =>
  simp only [tyOf] at h
  split at h <;> try contradiction
  ·rename_i k hu; simp only [Option.some.injEq] at h; subst h; right; right; simp [hu, aggTy]
  ·rename_i hu; simp only [Option.some.injEq] at h; subst h; right; right; simp [hu, aggTy]
  ·rename_i hu; simp only [Option.some.injEq] at h; subst h; right; right; simp [hu, aggTy]
  ·rename_i e hu; rw [Option.map_eq_some_iff] at h; obtain ⟨te, _, rfl⟩ := h; right; right; simp [hu, aggTy]
  ·rename_i m e hu; rw [Option.map_eq_some_iff] at h; obtain ⟨te, _, rfl⟩ := h; left; exact ⟨⟨_, _, rfl⟩, _, _, hu⟩
  ·rename_i fs hu
   right; left
   refine ⟨?_, fs, hu⟩
   split at h
   ·rw [Option.map_eq_some_iff] at h; obtain ⟨te, _, rfl⟩ := h; exact .inr (.inr ⟨_, rfl⟩)
   cases n with
   | zero => simp [tyFs] at h
   | succ n =>
    generalize fs.toList = l at h
    cases l with
    | nil => simp only [tyFs, Option.some.injEq] at h; exact .inl h.symm
    | cons f r =>
     simp only [tyFs] at h
     split at h <;> try contradiction
     simp only [Option.some.injEq] at h
     exact .inr (.inl ⟨_, _, h.symm⟩)
  ·rename_i ms hu
   split at h <;> try contradiction
   simp only [Option.some.injEq] at h; subst h; right; right; simp [hu, aggTy]
theorem arg_rel {E : Env} {tb : Tbl} {n m : Nat} {t : TypeId} {v : Value} {x : DataW H × List MemPlace} {ty : Ty} {r : Reach} (hE : ∀ t b, E.ok tb t b) (K : Kids P T) (hz : ∀ t e, T t → P.underlying t = some (.slice e) → 0 < P.cellsOf e)
  (hne : ty.noErr = true) (hT : T t) (hty : tyOf P m t = some ty) (hok : ∀ (w' : World) (b : Nat), w' = w → b = base → Value.okWide P w r base t v) {sp : Nat → Bool} (h : DataW.trod enc P w 0 sp held n t v.cells.toList = some x) (hb : bulkD x.1 ≤ MAXL) :
  ∃ y : ty.den, RelV E tb w (lift ty y) v ∧ okT ty y ∧ bulkT ty y ≤ bulkD x.1 := by
 obtain ⟨y, h1, h2⟩ := trod_rt K hz n hne hT hty h hb
 have h1' : Rt w (E.ok tb) ty v.cells.toList y := Rt.mono (fun t b _ hlt => ⟨hE t b, hlt⟩) (fun _ _ _ _ _ h => h) h1
 have hrel := Rt.lift h1'
 refine ⟨y, ?_, h1.okT, h2⟩
 have hokv := hok w base rfl rfl
 unfold RelV
 rw [lift_aggM]
 rcases tyOf_agg hty with ⟨⟨m, e, rfl⟩, m', e', hu⟩ | ⟨hq, fs, hu⟩ | ⟨hq, hs, ha⟩
 ·unfold Value.okWide at hokv
  rw [hu] at hokv
  obtain ⟨cs, rfl, _⟩ := hokv
  exact ⟨cs, rfl, hrel⟩
 ·unfold Value.okWide at hokv
  rw [hu] at hokv
  obtain ⟨cs, rfl, _⟩ := hokv
  rcases hq with rfl | ⟨a, b, rfl⟩ | ⟨a, rfl⟩
  ·exact ⟨cs, rfl, hrel⟩
  ·exact ⟨cs, rfl, hrel⟩
  ·exact ⟨cs, rfl, hrel⟩
 ·have hv := ok_scalar hs ha hokv
  have hc : v.cells.toList = [v] := by
   cases v <;> first | rfl | (exfalso; exact hv _ rfl)
  rw [hc] at hrel
  simp only [hq, Bool.false_eq_true, if_false]
  exact hrel
theorem args_rel {E : Env} {tb : Tbl} {r : Reach} {sp : Nat → Bool} (hE : ∀ t b, E.ok tb t b) (K : Kids P T) (hz : ∀ t e, T t → P.underlying t = some (.slice e) → 0 < P.cellsOf e) :
  ∀ (ts : List TypeId) (tys : List Ty) (vs : List Value) (ds : List (DataW H)) (ps : List MemPlace), tysOf P ts = some tys → (∀ t ∈ ts, T t) →
   (∀ (j : Nat) t v, ts[j]? = some t → vs[j]? = some v → Value.okWide P w r base t v) → DataW.TrodAll enc P w 0 sp held ts vs ds ps → bulkDs ds ≤ MAXL →
   ∃ as : List Arg, as.map (·.1) = tys ∧ RelVL E tb w (as.map liftA) vs ∧ (∀ a ∈ as, okT a.1 a.2) ∧ (as.map fun a => bulkT a.1 a.2).sum ≤ bulkDs ds
 | [], tys, vs, ds, ps, hty, hT, hok, h, hb => by
  obtain ⟨rfl, rfl, rfl⟩ := trodAll_nil h
  simp only [tysOf, Option.some.injEq] at hty
  subst hty
  exact ⟨[], rfl, rfl, by simp, Nat.zero_le _⟩
 | t :: ts, tys, vs, ds, ps, hty, hT, hok, h, hb => by
  obtain ⟨v, vs1, d, ds1, p, q, rfl, rfl, rfl, ⟨n, h1⟩, h2⟩ := trodAll_cons h
  simp only [tysOf] at hty
  split at hty <;> try contradiction
  rename_i a b ha hb'
  split at hty <;> try contradiction
  rename_i hne
  simp only [Option.some.injEq] at hty
  subst hty
  simp only [bulkDs] at hb
  obtain ⟨y, q1, q2, q3⟩ := arg_rel (E := E) (tb := tb) (r := r) hE K hz hne (hT t (by simp)) ha (fun _ _ _ _ => hok 0 t v rfl rfl) h1 (by simp only; omega)
  obtain ⟨as, r1, r2, r3, r4⟩ := args_rel hE K hz ts b vs1 ds1 q hb' (fun t ht => hT t (by simp [ht])) (fun j t v ht hv => hok (j + 1) t v (by simpa using ht) (by simpa using hv)) h2 (by omega)
  refine ⟨⟨a, y⟩ :: as, by simp [r1], ⟨v, vs1, rfl, q1, r2⟩, ?_, ?_⟩
  ·intro z hz
   rcases List.mem_cons.1 hz with rfl | hz
   ·exact q2
   ·exact r3 z hz
  ·simp only [List.map_cons, List.sum_cons, bulkDs]
   simp only at q3
   omega
theorem Hist.keptBut {W W' : World} {own : Nat → Prop} (h : Hist W own W') (hn : ∀ b, ¬ own b) (may : MemPlace → Prop) : W.keptBut W' may := by
 refine ⟨h.os, h.output, fun i hi => ?_⟩
 rw [h.block i hi (hn i)]
 cases hq : W.heap[i]? with
 | none => rfl
 | some o => cases o <;> simp
theorem post_same {f : Func} {s : ChangeSpec} {apart fresh handsOn again : Bool} {W W' : World} {args : Array Value} {v : Value} {ds gs : List (DataW H)} {before pa pv : List MemPlace}
  (hW : DataW.Whole enc P f.params.toList s.vars apart W args.toList ds gs before)
  (hres : ∀ (b : Nat) (sp : Nat → Bool) (hd : Bool), DataW.TrodAll enc P W' b sp hd f.resultTypes.toList (v.resultList f.resultTypes.size) (s.fn H (ds ++ gs)).results [])
  (hargs : ∀ sp : Nat → Bool, (∀ p ∈ before, sp p.block = true) → DataW.TrodAll enc P W' 0 sp true f.params.toList args.toList (s.fn H (ds ++ gs)).args pa)
  (hvars : ∀ sp : Nat → Bool, (∀ p ∈ before, sp p.block = true) → DataW.TrodVars enc P W' sp s.vars (s.fn H (ds ++ gs)).vars pv)
  (hps : before = pa ++ pv) (hk : W.keptBut W' (· ∈ before)) (hfz : ∀ a : Addr, a.block < W.heap.size → W'.frozen? a = W.frozen? a)
  (hok : ∀ (j : Nat) (t : TypeId) (r : Value), f.resultTypes[j]? = some t → (v.resultList f.resultTypes.size)[j]? = some r → Value.okWide P W' .any 0 t r) :
  s.post enc P f apart fresh handsOn again W args v W' := by
 have hold : ∀ p ∈ before, (fun b => decide (b < W.heap.size)) p.block = true := fun p hp => by simpa using hW.lt p hp
 refine ⟨ds, gs, before, [], pa, pv, hW, hres _ _ _, hargs _ hold, hvars _ hold, World.keptBut_mono (fun p hp => ⟨hp, ?_⟩) hk, fun _ => ?_⟩
 ·rw [hps, List.mem_append] at hp
  exact Or.inr hp
 ·have hlt := hW.lt
  obtain ⟨_, _, _, _, _, hz, hn⟩ := hW
  refine ⟨hok, _, _, ([] ++ pa) ++ pv, ⟨[] ++ pa, pv, trodAll_append (hargs _ (fun _ _ => rfl)) (hres _ _ _), hvars _ (fun _ _ => rfl), rfl, ?_, ?_⟩, ?_⟩
  ·intro b off hp
   have hp' : MemPlace.cell b off ∈ before := by rw [hps]; simpa using hp
   rw [hfz ⟨b, off, none⟩ (hlt _ hp')]
   exact hz b off hp'
  ·intro ha
   have := hn ha
   rw [hps] at this
   simpa using this
  ·intro p hp _
   rw [hps]
   simpa using hp
theorem trodAll_carry {W' : World} {sp : Nat → Bool} (hs : ∀ p, p.block < w.heap.size → w.sameAt W' p) : ∀ {ts : List TypeId} {vs : List Value} {ds : List (DataW H)} {ps : List MemPlace}, DataW.TrodAll enc P w base sp held ts vs ds ps → DataW.TrodAll enc P W' base sp held ts vs ds ps
 | [], vs, ds, ps, h => by
  obtain ⟨rfl, rfl, rfl⟩ := trodAll_nil h
  rfl
 | t :: ts, vs, ds, ps, h => by
  obtain ⟨v, vs1, d, ds1, p, q, rfl, rfl, rfl, ⟨n, h1⟩, h2⟩ := trodAll_cons h
  exact ⟨p, q, ⟨n, DataW.trod_carry n _ _ _ h1 fun x hx => hs x (DataW.trod_lt n _ _ _ h1 x hx)⟩, trodAll_carry hs h2, rfl⟩
theorem contract_of {f : FuncId} {fn : Func} {s : ChangeSpec} {apart fresh handsOn again : Bool} {gl : Nat → Option S} {tys : List Ty} {N : Nat} {tb : TypeId}
  (K : Kids P (· < P.types.size)) (hz : ∀ t e, t < P.types.size → P.underlying t = some (.slice e) → 0 < P.cellsOf e) (hpar : ∀ t ∈ fn.params.toList, t < P.types.size) (htys : tysOf P fn.params.toList = some tys)
  (hres : fn.resultTypes = #[tb]) (hbool : P.underlying tb = some .bool) (hvars : s.vars = []) (hfn : ∀ ds : List (DataW H), ds.length = tys.length → s.fn H ds = { results := [.lit (.bool true)], args := ds }) (hN : N ≤ MAXL) (hlaw : LawOk P gl f tys N)
  {W : World} {base : Nat} {args : Array Value} {ds gs : List (DataW H)} {before : List MemPlace}
  (hglob : ∀ g x, gl g = some x → g < W.heap.size ∧ ∃ cs, Lies W g 0 cs ∧ Rel ⟨fun _ => none, fun _ _ => False, gl⟩ (tbOf []) W x cs ∧ keysOf x = [])
  (hval : ∀ (j : Nat) t v, fn.params[j]? = some t → args[j]? = some v → Value.okWide P W .any base t v)
  (hW : DataW.Whole enc P fn.params.toList s.vars apart W args.toList ds gs before) (hbulk : bulkDs (ds ++ gs) ≤ N) :
  Calls P f args W fun e W' => ∃ v, e = .returned v ∧ s.post enc P fn apart fresh handsOn again W args v W' := by
 have hW0 := hW
 obtain ⟨p, q, hA, hV, hpq, hfrz, hnd⟩ := hW
 rw [hvars] at hV
 obtain ⟨rfl, rfl⟩ : gs = [] ∧ q = [] := by
  cases gs with
  | nil => exact ⟨rfl, hV⟩
  | cons g r => exact hV.elim
 rw [List.append_nil] at hbulk hpq
 subst hpq
 obtain ⟨E, hE⟩ : ∃ E : Env, E = ⟨fun _ => none, fun _ _ => False, gl⟩ := ⟨_, rfl⟩
 have hEok : ∀ t b, E.ok (tbOf []) t b := by
  intro t b
  rw [hE]
  exact ⟨id, fun k p e h => by cases h⟩
 obtain ⟨as, r1, r2, r3, r4⟩ := args_rel (E := E) (tb := tbOf []) (r := .any) (base := base) hEok K hz _ tys _ ds _ htys hpar (fun j t v ht hv => hval j t v (by simpa using ht) (by simpa using hv)) hA (by omega)
 obtain ⟨es', hfn1, hfn2⟩ := hlaw as r1 r3 (by omega)
 have hnokeys : ∀ (l : List Arg), keysOfL (l.map liftA) = [] := by
  intro l
  induction l with
  | nil => rfl
  | cons a r ih => simp only [List.map_cons, keysOfL, ih, List.append_nil]; exact lift_keys _ _
 have hin : FnIn E W (as.map liftA) [] args.toList := by
  refine ⟨r2, ?_, ?_, ?_, ?_, ?_, ?_, by simp⟩
  ·intro k e h; simp at h
  ·intro k j p q e f _ _ h; simp at h
  ·intro k hk; rw [hnokeys] at hk; cases hk
  ·intro k e h; simp at h
  ·intro g x hg
   rw [hE] at hg
   obtain ⟨h1, cs, h2, h3, h4⟩ := hglob g x hg
   exact ⟨fun t => hEok t g, h1, cs, h2, by rw [hE]; exact h3, h4⟩
  ·intro t b hb; rw [hE] at hb; exact hb.elim
 have hcall := hfn2 E W args.toList (by rw [hE]) hin
 rw [show args.toList.toArray = args by simp] at hcall
 refine Calls.mono hcall ?_
 rintro e W' ⟨rv, E', rfl, hout⟩
 have hrv : rv = .bool true := relV_bool.1 hout.val
 subst hrv
 have hown : ∀ b, ¬ ownsB E [] b false := by
  rintro b ⟨k, p, e, h1, h2, _⟩
  simp at h2
 have hsame : ∀ p : MemPlace, p.block < W.heap.size → W.sameAt W' p := by
  intro p hp
  have hb := hout.hist.block p.block hp (hown _)
  cases p with
  | cell b off => exact cell_same hb off
  | map b => exact hb
 have hspec := hfn (ds ++ []) (by
  rw [List.append_nil, ← r1, List.length_map]
  have e1 := (relVL_get r2).1
  rw [List.length_map] at e1
  have : ∀ (ts : List TypeId) (vs : List Value) (ds : List (DataW H)) (ps : List MemPlace), DataW.TrodAll enc P W 0 (fun _ => true) true ts vs ds ps → ds.length = vs.length := by
   intro ts
   induction ts with
   | nil => intro vs ds ps h; obtain ⟨rfl, rfl, rfl⟩ := trodAll_nil h; rfl
   | cons t ts ih =>
    intro vs ds ps h
    obtain ⟨v, vs1, d, ds1, a, b, rfl, rfl, rfl, _, h2⟩ := trodAll_cons h
    simp [ih _ _ _ h2]
  rw [this _ _ _ _ hA, e1])
 refine ⟨_, rfl, post_same (pa := before) (pv := []) hW0 ?_ ?_ ?_ (by simp) (hout.hist.keptBut hown _) ?_ ?_⟩
 ·intro b sp hd
  rw [hspec, hres]
  exact trodAll_cons_mk (p := []) (RowKit.shut_bool hbool true) trodAll_mk0
 ·intro sp hsp
  rw [hspec]
  simp only [List.append_nil]
  exact trodAll_carry hsame (hA.respare K hz hpar hsp)
 ·intro sp hsp
  rw [hspec, hvars]
  rfl
 ·intro a ha
  unfold World.frozen?
  rw [hout.hist.block a.block ha (hown _)]
 ·exact RowKit.ok_one hres rfl (RowKit.okWide_bool_mk hbool true)
end
end Go.Ab
