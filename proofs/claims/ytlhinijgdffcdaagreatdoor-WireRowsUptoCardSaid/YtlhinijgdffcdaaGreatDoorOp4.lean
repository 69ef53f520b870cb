/- More operations that only compute: comparisons, lengths, parts of values. -/
import Derived.Test.YtlhinijgdffcdaaGreatDoorOp3
import Derived.ChangeKeysEq
namespace Go.Ab
open Go
set_option linter.unusedVariables false
set_option linter.unusedSimpArgs false
theorem cellsT_info {P : Program} {t : TypeId} {n : Nat} (h : cellsT P t = some n) : ∃ d i, P.underlying t = some d ∧ P.info? t = some i ∧ i.size = n := by
 unfold cellsT at h
 cases hu : P.underlying t with
 | none => simp [hu] at h
 | some d =>
  cases hi : P.info? t with
  | none => simp [hu, hi] at h
  | some i => simp [hu, hi] at h; exact ⟨d, i, rfl, rfl, h⟩
theorem run_sizeT {P : Program} {t : TypeId} {n : Nat} (h : cellsT P t = some n) (w : World) : (sizeOf t).run P w = .ok n w := by
 obtain ⟨d, i, _, hi, rfl⟩ := cellsT_info h
 unfold sizeOf typeInfo
 simp only [hi, bind, Sem.bind, program, Sem.run, pure]
theorem run_isAggT {P : Program} {t : TypeId} {n : Nat} (h : cellsT P t = some n) (w : World) : (isAgg t).run P w = .ok (isAggT P t) w := by
 obtain ⟨d, i, hu, hi, rfl⟩ := cellsT_info h
 unfold isAgg underlying isAggT
 simp only [hu, bind, Sem.bind, program, Sem.run, pure]
 cases d <;> rfl
theorem cellsOf_T {P : Program} {t : TypeId} {n : Nat} (h : cellsT P t = some n) : P.cellsOf t = n := by
 obtain ⟨d, i, _, hi, rfl⟩ := cellsT_info h
 simp [Program.cellsOf, hi]
section
variable {E : Env} {w0 : World} {own0 : Nat → Bool → Prop} {st : St} {D : List Nat} {a : Act} {w : World} {C : Ctx} {o : Oper} {i : Nat} {r : OpR}
theorem depth_two (P : Program) : ∃ d, P.depth = d + 2 := ⟨2 * (P.types.size + Made.depth), rfl⟩
theorem eqGuard_arr {P : Program} {t et : TypeId} {n : Nat} {d : TypeDesc} (ht : P.underlying t = some (.array n et)) (he : P.underlying et = some d)
  (hd : (match d with | .interface _ | .struct _ | .array .. => false | _ => true) = true) (op : BinOp) (x y : Operand) (xs ys : Array Value) (w : World) :
  (eqGuard op t x y (.agg xs) (.agg ys)).run P w = .ok () w := by
 obtain ⟨k, hk⟩ := depth_two P
 have h1 : P.eqGuardType P.depth t = false := by
  rw [hk]
  simp only [Program.eqGuardType, ht, he]
  cases d <;> simp_all
 unfold eqGuard
 cases op <;> simp [h1]
theorem part_flat {P : Program} {et : TypeId} {w : World} (he : cellsT P et = some 1) (hag : isAggT P et = false) {xs : Array Value} {off : Nat} {v : Value} (h : xs[off]? = some v) :
  (part et xs off).run P w = .ok v w := by
 unfold part
 simp only [Sem.run_bind, run_isAggT he, hag, Result.andThen_ok, Bool.false_eq_true, if_false, h, Sem.run_pure]
theorem rt_flat_int {ok : Ty → Nat → Prop} {k : IntKind} {n : Nat} {cs : List Value} {xs : List Int} (h : Rt w ok (.arr n (.int k)) cs xs) :
  xs.length = n ∧ cs = xs.map (Value.int k) := by
 obtain ⟨hl, css, rfl, hn, hc⟩ := h
 refine ⟨hl, ?_⟩
 have : css = xs.map fun x => [Value.int k x] := by
  apply List.ext_getElem?
  intro j
  by_cases hj : j < xs.length
  ·obtain ⟨e, h1, h2, _⟩ := hc j hj
   rw [h1, h2, List.getElem?_map, List.getElem?_eq_getElem hj]; rfl
  ·rw [List.getElem?_eq_none (by omega), List.getElem?_eq_none (by simp; omega)]
 rw [this]
 clear this hc hn hl
 induction xs with
 | nil => rfl
 | cons x r ih => simpa using ih
theorem rt_flat_bool {ok : Ty → Nat → Prop} {n : Nat} {cs : List Value} {xs : List Bool} (h : Rt w ok (.arr n .bool) cs xs) :
  xs.length = n ∧ cs = xs.map Value.bool := by
 obtain ⟨hl, css, rfl, hn, hc⟩ := h
 refine ⟨hl, ?_⟩
 have : css = xs.map fun x => [Value.bool x] := by
  apply List.ext_getElem?
  intro j
  by_cases hj : j < xs.length
  ·obtain ⟨e, h1, h2⟩ := hc j hj
   rw [h1, h2, List.getElem?_map, List.getElem?_eq_getElem hj]; rfl
  ·rw [List.getElem?_eq_none (by omega), List.getElem?_eq_none (by simp; omega)]
 rw [this]
 clear this hc hn hl
 induction xs with
 | nil => rfl
 | cons x r ih => simpa using ih
theorem eqItems_flat {α : Type} [DecidableEq α] {P : Program} {et : TypeId} (mkV : α → Value) (he : cellsT P et = some 1) (hag : isAggT P et = false)
  (heq : ∀ (d : Nat) (x y : α) (w : World), (Op.equalIn (d + 1) et (mkV x) (mkV y)).run P w = .ok (decide (x = y)) w) (d : Nat) (w : World) (xs ys : List α) :
  ∀ (n s : Nat), s + n = xs.length → xs.length = ys.length →
   (Op.eqItems (d + 1) et 1 (xs.map mkV).toArray (ys.map mkV).toArray (List.range' s n)).run P w = .ok (decide (xs.drop s = ys.drop s)) w
 | 0, s, h, hl => by
  simp only [List.range'_zero, Op.eqItems, Sem.run_pure]
  rw [List.drop_eq_nil_of_le (by omega), List.drop_eq_nil_of_le (by omega)]; simp
 | n + 1, s, h, hl => by
  have hx : s < xs.length := by omega
  have hy : s < ys.length := by omega
  rw [List.range'_succ]
  simp only [Op.eqItems, Sem.run_bind, Nat.mul_one]
  rw [part_flat he hag (v := mkV xs[s]) (by simp [hx])]
  simp only [Result.andThen_ok]
  rw [part_flat he hag (v := mkV ys[s]) (by simp [hy])]
  simp only [Result.andThen_ok, heq]
  have hdrop : (xs.drop s = ys.drop s) ↔ (xs[s] = ys[s] ∧ xs.drop (s + 1) = ys.drop (s + 1)) := by
   rw [List.drop_eq_getElem_cons hx, List.drop_eq_getElem_cons hy, List.cons.injEq]
  by_cases hxy : xs[s] = ys[s]
  ·have ih := eqItems_flat mkV he hag heq d w xs ys n (s + 1) (by omega) hl
   simp only [hxy, decide_true, Bool.not_true, Bool.false_eq_true, if_false, ih]
   congr 1
   rw [decide_eq_decide, hdrop]; simp [hxy]
  ·have : decide (xs.drop s = ys.drop s) = false := by rw [decide_eq_false_iff_not, hdrop]; simp [hxy]
   rw [this]; simp [hxy]
theorem equal_flat {α : Type} [DecidableEq α] {P : Program} {t et : TypeId} {n : Nat} (mkV : α → Value) (ht : P.underlying t = some (.array n et)) (he : cellsT P et = some 1) (hag : isAggT P et = false)
  (heq : ∀ (d : Nat) (x y : α) (w : World), (Op.equalIn (d + 1) et (mkV x) (mkV y)).run P w = .ok (decide (x = y)) w) (w : World) (xs ys : List α) (hx : xs.length = n) (hy : ys.length = n) :
  (Op.equal t (.agg (xs.map mkV).toArray) (.agg (ys.map mkV).toArray)).run P w = .ok (decide (xs = ys)) w := by
 obtain ⟨d, inf, hu, hi, hs⟩ := cellsT_info he
 unfold Op.equal Op.maxDepth
 rw [run_equalIn_array w 9999 _ _ ht hi, cellsOf_T he, List.range_eq_range']
 have := eqItems_flat mkV he hag heq 9998 w xs ys n 0 (by omega) (by omega)
 simpa using this
theorem cmp_of {P : Program} {tb : Tbl} {xT : TypeId} {x y : Operand} {u v : Value} {b : Bool} {op : BinOp} {s : S}
  (hop : op = .eql ∧ s = .bool b ∨ op = .neq ∧ s = .bool (!b)) (hg : (eqGuard op xT x y u v).run P w = .ok () w)
  (hb : ∀ op, op = .eql ∨ op = .neq → binOp op xT u v = (match op with | .eql => do pure (.bool (← Op.equal xT u v)) | _ => do pure (.bool (!(← Op.equal xT u v)))))
  (he : (Op.equal xT u v).run P w = .ok b w) : Scalar E tb w P (do eqGuard op xT x y u v; binOp op xT u v) s := by
 rcases hop with ⟨rfl, rfl⟩ | ⟨rfl, rfl⟩
 ·refine scalar_bool ?_
  rw [hb _ (.inl rfl)]
  simp [hg, he]
 ·refine scalar_bool ?_
  rw [hb _ (.inr rfl)]
  simp [hg, he]
theorem equal_nil_nil {P : Program} {t : TypeId} {ms : Array (String × TypeId)} (h : P.underlying t = some (.interface ms)) (d : Nat) : (Op.equalIn (d + 1) t .nilIface .nilIface).run P w = .ok true w := by
 simp [Op.equalIn, run_underlying h]
theorem equal_iface_nil {P : Program} {t : TypeId} {ms : Array (String × TypeId)} (h : P.underlying t = some (.interface ms)) (d : Nat) (k : TypeId) (z : Value) : (Op.equalIn (d + 1) t (.iface k z) .nilIface).run P w = .ok false w := by
 simp [Op.equalIn, run_underlying h]
theorem eqS_sound {tb : Tbl} {P : Program} {op : BinOp} {xT : TypeId} {ox oy : Operand} {x y : S} {u v : Value} {b : Bool} {s : S}
  (hx : RelV E tb w x u) (hy : RelV E tb w y v) (hk : eqOk P xT x = true) (hl : errLit x oy = true) (h : eqS x y = some b) (hop : op = .eql ∧ s = .bool b ∨ op = .neq ∧ s = .bool (!b))
  (hni : ∀ k p k' q, x = .int k p → y = .int k' q → False) (hns : ∀ p q, x = .str p → y = .str q → False) :
  Scalar E tb w P (do eqGuard op xT ox oy u v; binOp op xT u v) s := by
 unfold eqS at h
 split at h
 ·exact (hni _ _ _ _ rfl rfl).elim
 ·rename_i p q
  simp at h; subst h
  obtain rfl := relV_bool.1 hx
  obtain rfl := relV_bool.1 hy
  simp only [eqOk] at hk
  split at hk <;> try contradiction
  rename_i hu
  refine cmp_of hop (by rw [eqGuard_at_bool]; rfl) (fun op ho => by rcases ho with rfl | rfl <;> rfl) ?_
  unfold Op.equal Op.maxDepth
  rw [run_equalIn_bool' _ _ _ _ _ hu]
  congr 1
 ·exact (hns _ _ rfl rfl).elim
 ·rename_i n e xs n' e' ys
  split at h <;> try contradiction
  rename_i hnn
  split at h <;> try contradiction
  rename_i hee
  subst hnn; subst hee
  simp only [castL] at h
  simp only [RelV, S.isAgg, if_true, Rel] at hx hy
  obtain ⟨as, rfl, hx⟩ := hx
  obtain ⟨bs, rfl, hy⟩ := hy
  simp only [eqOk] at hk
  split at hk <;> try contradiction
  rename_i len et hu
  simp only [Bool.and_eq_true, decide_eq_true_eq, beq_iff_eq] at hk
  obtain ⟨⟨rfl, hcells⟩, hk⟩ := hk
  split at hk <;> try contradiction
  ·rename_i k k' xs hue
   simp at h; subst h
   obtain ⟨l1, e1⟩ := rt_flat_int hx
   obtain ⟨l2, e2⟩ := rt_flat_int hy
   have hag : isAggT P et = false := by simp [isAggT, hue]
   have ha : as = (xs.map (Value.int k)).toArray := by rw [← e1]
   have hb : bs = (ys.map (Value.int k)).toArray := by rw [← e2]
   rw [ha, hb]
   refine cmp_of hop (eqGuard_arr hu hue rfl _ _ _ _ _ _) (fun op ho => by rcases ho with rfl | rfl <;> rfl) ?_
   exact equal_flat (Value.int k) hu hcells hag (fun d x y w => by rw [run_equalIn_int _ _ _ _ _ _ _ hue]; congr 1) w xs ys l1 l2
  ·rename_i xs hue
   simp at h; subst h
   obtain ⟨l1, e1⟩ := rt_flat_bool hx
   obtain ⟨l2, e2⟩ := rt_flat_bool hy
   have hag : isAggT P et = false := by simp [isAggT, hue]
   have ha : as = (xs.map Value.bool).toArray := by rw [← e1]
   have hb : bs = (ys.map Value.bool).toArray := by rw [← e2]
   rw [ha, hb]
   refine cmp_of hop (eqGuard_arr hu hue rfl _ _ _ _ _ _) (fun op ho => by rcases ho with rfl | rfl <;> rfl) ?_
   exact equal_flat Value.bool hu hcells hag (fun d x y w => by rw [run_equalIn_bool' _ _ _ _ _ hue]; congr 1) w xs ys l1 l2
 ·rename_i p
  simp only [Option.some.injEq] at h; subst h
  obtain ⟨c, rfl⟩ : ∃ c, oy = .const c := by
   cases oy with
   | const c => exact ⟨c, rfl⟩
   | _ => simp [errLit] at hl
  have hy : [v] = [Value.nilIface] := by rw [relV_scalar rfl] at hy; exact hy
  simp only [List.cons.injEq, and_true] at hy
  subst hy
  simp only [eqOk] at hk
  split at hk <;> try contradiction
  rename_i ms hu
  rw [relV_scalar rfl] at hx
  have hx : RtE w (E.ok tb .err) p [u] := hx
  have hcase : (p.isNil = true ∧ u = .nilIface) ∨ (p.isNil = false ∧ ∃ t z, u = .iface t z) := by
   cases p with
   | nil => left; exact ⟨rfl, by have hx : [u] = [Value.nilIface] := hx; simpa using hx⟩
   | leaf t xs => right; obtain ⟨b, h1, _⟩ := hx; exact ⟨rfl, _, _, by simpa using h1⟩
   | wrap t pre x post => right; obtain ⟨b, c, h1, _⟩ := hx; exact ⟨rfl, _, _, by simpa using h1⟩
   | raw t z => right; have hx : [u] = [Value.iface t z] := hx; exact ⟨rfl, t, z, by simpa using hx⟩
  rcases hcase with ⟨h1, rfl⟩ | ⟨h1, t, z, rfl⟩
  ·rw [h1] at hop
   refine cmp_of hop (by rw [eqGuard_nil_constR]; rfl) (fun op ho => by rcases ho with rfl | rfl <;> rfl) ?_
   exact equal_nil_nil hu _
  ·rw [h1] at hop
   refine cmp_of hop (by rw [eqGuard_at_iface]; rfl) (fun op ho => by rcases ho with rfl | rfl <;> rfl) ?_
   exact equal_iface_nil hu _ _ _
 ·contradiction
theorem bin_sound {tb : Tbl} {P : Program} {op : BinOp} {xT : TypeId} {ox oy : Operand} {x y : S} {u v : Value}
  (hx : RelV E tb w x u) (hy : RelV E tb w y v) (hk : (isEq op && !(eqOk P xT x && errLit x oy)) = false) (h : binS op x y = some r) (hg : ∀ g ∈ r.g, g = true) :
  Scalar E tb w P (do eqGuard op xT ox oy u v; binOp op xT u v) r.v ∧ r.ef = [] := by
 by_cases hii : ∃ k p k' q, x = .int k p ∧ y = .int k' q
 ·obtain ⟨k, p, k', q, rfl, rfl⟩ := hii
  obtain ⟨rfl, hp⟩ := relV_int.1 hx
  obtain ⟨rfl, hq⟩ := relV_int.1 hy
  exact binInt_sound hp hq h hg
 by_cases hss : ∃ p q, x = .str p ∧ y = .str q
 ·obtain ⟨p, q, rfl, rfl⟩ := hss
  obtain ⟨bs, rfl, rfl, _⟩ := relV_str.1 hx
  obtain ⟨cs, rfl, rfl, _⟩ := relV_str.1 hy
  exact binStr_sound h hg
 have hni : ∀ k p k' q, x = .int k p → y = .int k' q → False := fun k p k' q h1 h2 => hii ⟨k, p, k', q, h1, h2⟩
 have hns : ∀ p q, x = .str p → y = .str q → False := fun p q h1 h2 => hss ⟨p, q, h1, h2⟩
 unfold binS at h
 split at h
 all_goals first
  | (exact (hni _ _ _ _ rfl rfl).elim)
  | (exact (hns _ _ rfl rfl).elim)
  | skip
 ·cases hb : eqS x y with
  | none => simp [hb] at h
  | some b =>
   simp [hb, ok] at h; subst h
   exact ⟨eqS_sound hx hy (by have := hk; simp [isEq] at this; exact this.1) (by have := hk; simp [isEq] at this; exact this.2) hb (.inl ⟨rfl, rfl⟩) hni hns, rfl⟩
 ·cases hb : eqS x y with
  | none => simp [hb] at h
  | some b =>
   simp [hb, ok] at h; subst h
   exact ⟨eqS_sound hx hy (by have := hk; simp [isEq] at this; exact this.1) (by have := hk; simp [isEq] at this; exact this.2) hb (.inr ⟨rfl, rfl⟩) hni hns, rfl⟩
 ·contradiction
theorem opS_binOp {op : BinOp} {xT yT : TypeId} {x y : Operand} (hR : RelSt E w0 own0 st D a.tmps w) (ho : o.op = .binOp op xT x y yT)
  (h : opS C o st.ep i (evalS st.sl) st.tb = some r) (hg : ∀ g ∈ r.g, g = true) : OpGood C.P E w0 own0 st D i o r.v r.ef a w := by
 have hd := opS_lt h
 unfold opS at h
 rw [ho] at h
 simp only [hd, decide_true, Bool.not_true, Bool.false_eq_true, if_false] at h
 split at h <;> try contradiction
 rename_i hk
 obtain ⟨⟨u, h1, h2, h3⟩, h4⟩ := bin_sound (ox := x) (oy := y) (hR.eval x) (hR.eval y) (by simpa using hk) h hg
 rw [h4]
 refine OpGood.value hR (u := u) ?_ h2 (by rw [h3]; simp)
 unfold execOp; rw [ho]
 simp only [Sem.run_bind] at h1 ⊢
 rw [h1]; rfl
end
end Go.Ab
