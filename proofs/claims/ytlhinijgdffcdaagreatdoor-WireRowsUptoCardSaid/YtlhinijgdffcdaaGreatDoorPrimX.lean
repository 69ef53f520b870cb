/- PrimX: a part of the proofs of this seat's statements. -/
import Derived.Test.YtlhinijgdffcdaaGreatDoorDef
import Derived.Test.YtlhinijgdffcdaaGreatDoorClone
import Derived.Lib.Bytealg
/- Plain functions of what is walked by hand. -/
namespace Go.Ab
def optK {α β : Type} (o : Option α) (s : α → β) (n : β) : β :=
 match o with
 | some x => s x
 | none => n
def Err.find (t : Nat) : Err → Option Err
 | .nil => none
 | .leaf u xs => bif decide (u = t) then some (.leaf u xs) else none
 | .wrap u pre x post => bif decide (u = t) then some (.wrap u pre x post) else Err.find t x
 | .raw _ _ => none
def Err.num (i : Nat) : Err → Int
 | .leaf _ xs => xs.getD i 0
 | .wrap _ pre _ post => (pre ++ post).getD i 0
 | _ => 0
def Err.inner : Err → Err
 | .wrap _ _ x _ => x
 | _ => .nil
def Err.any (n : Int) : Err → Bool
 | .leaf _ xs => decide (xs.getD 0 0 = n)
 | .wrap _ pre x post => bif decide ((pre ++ post).getD 0 0 = n) then true else Err.any n x
 | _ => false
def Err.fit (L : List (Nat × Nat)) (W : List (Nat × Nat × Nat)) : Err → Bool
 | .nil => true
 | .leaf t xs => L.contains (t, xs.length)
 | .wrap t pre x post => W.contains (t, pre.length, post.length) && Err.fit L W x
 | .raw _ _ => false
end Go.Ab

/- Functions whose contracts are walked by hand: what a call comes to. -/
namespace Go.Ab
open Go Go.RowKit
set_option linter.unusedVariables false
set_option linter.unusedSimpArgs false
theorem rte_form {w : World} {ok : Nat → Prop} {y : Err} {c : Value} (h : RtE w ok y [c]) : (y = .nil ∧ c = .nilIface) ∨ (y.isNil = false ∧ ∃ t z, c = .iface t z) := by
 cases y with
 | nil => left; exact ⟨rfl, by have h : [c] = [Value.nilIface] := h; simpa using h⟩
 | leaf t xs => right; obtain ⟨b, h1, _⟩ := h; exact ⟨rfl, _, _, by simpa using h1⟩
 | wrap t pre x post => right; obtain ⟨b, d, h1, _⟩ := h; exact ⟨rfl, _, _, by simpa using h1⟩
 | raw t z => right; have h : [c] = [Value.iface t z] := h; exact ⟨rfl, t, z, by simpa using h⟩
theorem eql_iface_nil {P : Program} {t : TypeId} {ms : Array (String × TypeId)} (h : P.underlying t = some (.interface ms)) (k : TypeId) (z : Value) (w : World) : (binOp .eql t (.iface k z) .nilIface).run P w = .ok (.bool false) w := by
 have := equal_iface_nil (w := w) h 9999 k z
 simp only [binOp, Op.equal, Op.maxDepth, Sem.run_bind, this, Result.andThen_ok, Sem.run_pure]
theorem eql_nil_nil {P : Program} {t : TypeId} {ms : Array (String × TypeId)} (h : P.underlying t = some (.interface ms)) (w : World) : (binOp .eql t .nilIface .nilIface).run P w = .ok (.bool true) w := by
 have := equal_nil_nil (w := w) h 9999
 simp only [binOp, Op.equal, Op.maxDepth, Sem.run_bind, this, Result.andThen_ok, Sem.run_pure]
structure Ext (w w' : World) : Prop where
 size : w.heap.size ≤ w'.heap.size
 block : ∀ b, b < w.heap.size → w'.heap[b]? = w.heap[b]?
 os : w'.os = w.os
 tape : w'.tape = w.tape
 output : w'.output = w.output
theorem Ext.refl (w : World) : Ext w w := ⟨Nat.le_refl _, fun _ _ => rfl, rfl, rfl, rfl⟩
theorem Ext.alloc {w w' : World} (h : Ext w w') (o : Obj) : Ext w (w'.alloc o) := by
 obtain ⟨h1, h2, h3, h4, h5⟩ := h
 refine ⟨?_, fun b hb => ?_, h3, h4, h5⟩
 ·show _ ≤ (w'.heap.push o).size
  simp; omega
 ·show (w'.heap.push o)[b]? = _
  rw [Array.getElem?_push, if_neg (by omega)]
  exact h2 b hb
theorem Ext.cell {w w' : World} (h : Ext w w') {b o : Nat} {v : Value} (hv : w.cell? ⟨b, o, none⟩ = some v) : w'.cell? ⟨b, o, none⟩ = some v := by
 rw [cell_same (h.block b (cell_lt hv))]; exact hv
structure Hid (p : Prop) : Prop where
 out : p
theorem Ext.set {w w' : World} (h : Ext w w') {b : Nat} (hb : b < w.heap.size) (v : Value) : Ext (w.setCell ⟨b, 0, none⟩ v) (w'.setCell ⟨b, 0, none⟩ v) := by
 obtain ⟨h1, h2, h3, h4, h5⟩ := h
 refine ⟨?_, fun c hc => ?_, h3, h4, h5⟩
 ·unfold World.setCell; simpa using h1
 ·have hc' : c < w.heap.size := by unfold World.setCell at hc; simpa using hc
  unfold World.setCell
  simp only [Array.getElem?_modify, h2 c hc']
theorem fit_wrap {L : List (Nat × Nat)} {W : List (Nat × Nat × Nat)} {u : Nat} {pre post : List Int} {y : Err} (h : Err.fit L W (.wrap u pre y post) = true) : (u, pre.length, post.length) ∈ W ∧ Err.fit L W y = true := by
 simp only [Err.fit, Bool.and_eq_true, List.contains_iff_mem] at h
 exact h
theorem fit_leaf {L : List (Nat × Nat)} {W : List (Nat × Nat × Nat)} {u : Nat} {xs : List Int} (h : Err.fit L W (.leaf u xs) = true) : (u, xs.length) ∈ L := by
 simpa only [Err.fit, List.contains_iff_mem] using h
end Go.Ab

/- errors.As: from its walk to what a call comes to. -/
namespace Go.Ab
open Go Go.RowKit
set_option linter.unusedVariables false
set_option linter.unusedSimpArgs false
theorem free_frozen {w : World} {b : Nat} {v : Value} (h : FreeBlk w b) (hv : w.cell? ⟨b, 0, none⟩ = some v) : w.frozen? ⟨b, 0, none⟩ = false := by
 obtain ⟨c, el, lo, hi, h1, h2⟩ := h
 unfold World.cell? at hv
 simp only [h1] at hv
 unfold World.frozen?
 simp only [h1]
 have h3 : 0 < c.size := by
  apply Classical.byContradiction
  intro hn
  simp [Array.getElem?_eq_none (by omega : c.size ≤ 0)] at hv
 rw [Bool.and_eq_false_iff, decide_eq_false_iff_not, decide_eq_false_iff_not]
 omega
section
variable {w : World} {b : Nat} {v : Value}
theorem setCell_same {b' : Nat} (h : b' ≠ b) : (w.setCell ⟨b, 0, none⟩ v).heap[b']? = w.heap[b']? := by
 unfold World.setCell
 simp only [Array.getElem?_modify]
 rw [if_neg (Ne.symm h)]
theorem setCell_size : (w.setCell ⟨b, 0, none⟩ v).heap.size = w.heap.size := by
 unfold World.setCell; simp
theorem setCell_blk {c : Array Value} {el : TypeId} {fz : Nat × Nat} (h : w.heap[b]? = some (.cells c el fz)) : (w.setCell ⟨b, 0, none⟩ v).heap[b]? = some (.cells (c.setIfInBounds 0 v) el fz) := by
 unfold World.setCell
 simp only [Array.getElem?_modify, if_true, h, Option.map_some]
 simp
end
theorem gd_some {α : Type} {b : Bool} {x : Option α} {r : α} (h : gd b x = some r) : b = true ∧ x = some r := by
 cases b with
 | true => exact ⟨rfl, h⟩
 | false => exact no_some h
theorem find_type {k : Nat} : ∀ {x y : Err}, Err.find k x = some y → (∃ xs, y = .leaf k xs) ∨ ∃ pre z post, y = .wrap k pre z post
 | .nil, y, h => by simp [Err.find] at h
 | .raw _ _, y, h => by simp [Err.find] at h
 | .leaf u xs, y, h => by
  simp only [Err.find] at h
  by_cases hu : u = k
  ·subst hu; simp at h; exact .inl ⟨xs, h.symm⟩
  ·simp [hu] at h
 | .wrap u pre x post, y, h => by
  simp only [Err.find] at h
  by_cases hu : u = k
  ·subst hu; simp at h; exact .inr ⟨pre, x, post, h.symm⟩
  ·simp [hu] at h; exact find_type h
theorem find_fit {L : List (Nat × Nat)} {W : List (Nat × Nat × Nat)} {k : Nat} : ∀ {x y : Err}, Err.fit L W x = true → Err.find k x = some y → Err.fit L W y = true
 | .nil, y, _, h => by simp [Err.find] at h
 | .raw _ _, y, _, h => by simp [Err.find] at h
 | .leaf u xs, y, hf, h => by
  simp only [Err.find] at h
  by_cases hu : u = k
  ·subst hu; simp at h; rw [← h]; exact hf
  ·simp [hu] at h
 | .wrap u pre x post, y, hf, h => by
  simp only [Err.find] at h
  by_cases hu : u = k
  ·subst hu; simp at h; rw [← h]; exact hf
  ·simp [hu] at h; exact find_fit (fit_wrap hf).2 h
theorem Rt.flatW {w w' : World} {ok ok' : Ty → Nat → Prop} : ∀ {t : Ty} {cs : List Value} {x : t.den}, flatTy t = true → Rt w ok t cs x → Rt w' ok' t cs x := by
 intro t
 induction t with
 | nw k => intro cs x _ h; exact h
 | int k => intro cs x _ h; exact h
 | bool => intro cs x _ h; exact h
 | str => intro cs x _ h; exact h
 | slice e _ => intro cs x hf; simp [flatTy] at hf
 | rose a _ => intro cs x hf; simp [flatTy] at hf
 | err => intro cs x hf; simp [flatTy] at hf
 | arr n e ih =>
  intro cs x hf h
  simp only [flatTy] at hf
  obtain ⟨hl, css, rfl, hn, hel⟩ := h
  refine ⟨hl, css, rfl, hn, fun i hi => ?_⟩
  obtain ⟨ecs, he, hr⟩ := hel i hi
  exact ⟨ecs, he, ih hf hr⟩
 | unit => intro cs x _ h; exact h
 | pair a b iha ihb =>
  intro cs x hf h
  simp only [flatTy, Bool.and_eq_true] at hf
  obtain ⟨c1, c2, h1, h2, h3⟩ := h
  exact ⟨c1, c2, h1, iha hf.1 h2, ihb hf.2 h3⟩
theorem as_ok {P : Program} {gl : Nat → Option S} {raw : FuncId → Bool} {f : FuncId} {tpp k rt : TypeId} {rv : Value} {ty : Ty} {x : Err} (enter : ∀ (as : Array Value) (w : World), (callFunc f as).run P w = .ok (.enter f as) w)
  (hglob : gl 0 = some (.err (.raw rt rv)))
  (hcall : ∀ (ok : Nat → Prop) (w : World) (tb : Nat) (oldv : Value), w.cell? ⟨0, 0, none⟩ = some (.iface rt rv) → w.cell? ⟨tb, 0, none⟩ = some oldv → w.frozen? ⟨tb, 0, none⟩ = false → ∀ (v : Value), RtE w ok x [v] →
   Calls P f #[v, .iface tpp (.pointer (some ⟨tb, 0, none⟩))] w fun e w' => (Err.find k x = none ∧ e = .returned (.bool false) ∧ Ext w w') ∨
    ∃ y b, Err.find k x = some y ∧ e = .returned (.bool true) ∧ RtE w ok y [.iface k (.pointer (some ⟨b, 0, none⟩))] ∧ Ext (w.setCell ⟨tb, 0, none⟩ (.pointer (some ⟨b, 0, none⟩))) w')
  {den : Err → ty.den} (hden : ∀ (ok : Nat → Prop) (w : World) (y : Err) (b : Nat), Err.find k x = some y → RtE w ok y [.iface k (.pointer (some ⟨b, 0, none⟩))] → ok b ∧ b < w.heap.size ∧ ∃ ecs, Lies w b 0 ecs ∧ Rt w (fun _ _ => True) ty ecs (den y)) (hflat : flatTy ty = true) :
  (∀ y, Err.find k x = some y → FnOk P gl f (npF raw f [.box .nilp false]) [.err x, .iface tpp (.ptr 0 [])] [.box .nilp false] (.bool true) [.box (.iref ty (den y)) false]) ∧
  (Err.find k x = none → FnOk P gl f (npF raw f [.box .nilp false]) [.err x, .iface tpp (.ptr 0 [])] [.box .nilp false] (.bool false) [.box .nilp false]) := by
 have hnp : npF raw f [.box .nilp false] = 1 := by unfold npF; split <;> rfl
 rw [hnp]
 have core : ∀ (E : Env) (w : World) (vs : List Value), E.gl = gl → FnIn E w [.err x, .iface tpp (.ptr 0 [])] [.box .nilp false] vs → ∃ v tb, vs = [v, .iface tpp (.pointer (some ⟨tb, 0, none⟩))] ∧ E.κ 0 = some (tb, 0) ∧ tb < w.heap.size ∧ FreeBlk w tb ∧ (∀ t, ¬ E.av t tb) ∧
   w.cell? ⟨tb, 0, none⟩ = some (.pointer none) ∧ RtE w (E.ok (tbOf [.box .nilp false]) .err) x [v] ∧ w.cell? ⟨0, 0, none⟩ = some (.iface rt rv) := by
  intro E w vs hgl hin
  obtain ⟨v, q, rfl, h1, u, q2, rfl, h2, h3⟩ := hin.vals
  cases h3
  have h1 : RtE w (E.ok (tbOf [.box .nilp false]) .err) x [v] := h1
  obtain ⟨b, cs, e1, e2, e3, e4, e5, e6, e7⟩ := hin.ent 0 _ rfl
  have e4 : cs = [Value.pointer none] := e4
  subst e4
  have h2 : ∃ v', [u] = [Value.iface tpp v'] ∧ Rel E (tbOf [.box .nilp false]) w (.ptr 0 []) [v'] := h2
  obtain ⟨v', hv, h2⟩ := h2
  have hh : (∃ b o, E.κ 0 = some (b, o) ∧ [v'] = [Value.pointer (some ⟨b, o + 0, none⟩)]) := h2.2
  obtain ⟨b', o', h4, h5⟩ := hh
  rw [e1] at h4
  simp only [Option.some.injEq, Prod.mk.injEq] at h4
  obtain ⟨rfl, rfl⟩ := h4
  obtain ⟨gv, g1, cs, g2, g3, g4⟩ := hin.glob 0 _ (by rw [hgl]; exact hglob)
  have g3 : cs = [Value.iface rt rv] := g3
  subst g3
  refine ⟨v, b, ?_, e1, e2, e6 rfl, e7, e3 0 _ rfl, h1, g2 0 _ rfl⟩
  rw [(List.cons.inj hv).1, (List.cons.inj h5).1]
 have okeq : ∀ (E : Env) (s : S) (t : Ty) b, E.ok (tbOf [.box .nilp false]) t b → E.ok (tbOf [.box s false]) t b := by
  intro E s t b h
  refine ⟨h.1, fun k p e hp he hf => ?_⟩
  cases k with
  | zero => exact h.2 0 p _ hp rfl rfl
  | succ k => simp [tbOf] at he
 refine ⟨fun y hy => ⟨enter, fun E w vs hgl hin => ?_⟩, fun hn => ⟨enter, fun E w vs hgl hin => ?_⟩⟩
 ·obtain ⟨v, tb, rfl, c1, c2, c3, c4, c5, c6, c7⟩ := core E w vs hgl hin
  refine Calls.mono (hcall (E.ok (tbOf [.box .nilp false]) .err) w tb _ c7 c5 (free_frozen c3 c5) v c6) ?_
  rintro e w' (⟨q1, _⟩ | ⟨y', b, q1, rfl, q2, q3⟩)
  ·rw [hy] at q1; cases q1
  rw [hy] at q1; cases q1
  obtain ⟨d1, d2, ecs, d3, d4⟩ := hden _ _ _ _ hy q2
  have hbt : b ≠ tb := fun h => d1.2 0 _ _ c1 rfl rfl h.symm
  have hcell : ∀ b', b' < w.heap.size → b' ≠ tb → w'.heap[b']? = w.heap[b']? := fun b' hb hne => by
   rw [q3.block b' (by rw [setCell_size]; exact hb), setCell_same hne]
  obtain ⟨cc, el, lo, hi, z1, z2⟩ := c3
  have hsz : 0 < cc.size := by
   apply Classical.byContradiction
   intro hn
   simp [World.cell?, z1, Array.getElem?_eq_none (by omega : cc.size ≤ 0)] at c5
  have hblk : w'.heap[tb]? = some (.cells (cc.setIfInBounds 0 (.pointer (some ⟨b, 0, none⟩))) el (lo, hi)) := by
   rw [q3.block tb (by rw [setCell_size]; exact c2)]
   exact setCell_blk z1
  have hsize : w.heap.size ≤ w'.heap.size := by have := q3.size; rwa [setCell_size] at this
  refine ⟨.bool true, E, rfl, rfl, ?_, ?_, rfl, rfl, fun _ _ => rfl, ?_, ?_, ?_⟩
  ·intro j ent he
   cases j with
   | succ j => simp at he
   | zero =>
    simp only [List.getElem?_cons_zero, Option.some.injEq] at he
    subst he
    refine ⟨tb, [.pointer (some ⟨b, 0, none⟩)], c1, by omega, ?_, ?_, rfl, fun _ => ⟨_, el, lo, hi, hblk, ?_⟩, c4⟩
    ·intro i v hi'
     cases i with
     | zero =>
      simp only [List.getElem?_cons_zero, Option.some.injEq] at hi'
      subst hi'
      unfold World.cell?
      simp only [hblk]
      simp [hsz]
     | succ i => simp at hi'
    ·refine ⟨b, 0, ecs, rfl, ⟨.err, okeq E _ _ b d1⟩, by omega, ?_, ?_⟩
     ·exact d3.mono fun o v hv => by rw [cell_same (hcell b d2 hbt)]; exact hv
     ·exact Rt.flatW hflat d4
    ·simpa using z2
  ·intro i j p q e f' _ _ hi' hj
   cases i with
   | succ i => simp at hi'
   | zero =>
    cases j with
    | succ j => simp at hj
    | zero => intro _; rfl
  ·intro j hj ent he
   cases j with
   | succ j => omega
   | zero =>
    simp only [List.getElem?_cons_zero, Option.some.injEq] at he
    subst he
    exact ⟨_, rfl, .inr rfl, fun h => by cases h⟩
  ·refine ⟨q3.os, q3.tape, q3.output, hsize, fun b' hb hn => ?_, fun b' o h => ?_, fun b' o hlt h => ?_⟩
   ·refine hcell b' hb fun h => hn ⟨0, _, _, c1, rfl, h.symm, fun _ => rfl⟩
   ·cases hq : w.cell? ⟨b', o, none⟩ with
    | none => rw [hq] at h; cases h
    | some v =>
     by_cases hb : b' = tb
     ·subst hb
      unfold World.cell? at hq ⊢
      simp only [z1] at hq
      simp only [hblk]
      simp only [Option.isSome_none, Bool.false_eq_true, if_false] at hq ⊢
      by_cases ho : o < cc.size
      ·rw [Array.getElem?_eq_getElem (by simpa using ho)]; rfl
      ·rw [Array.getElem?_eq_none (by omega)] at hq; cases hq
     ·rw [cell_same (hcell b' (cell_lt hq) hb), hq]; rfl
   ·by_cases hb : b' = tb
    ·subst hb
     unfold World.cell? at h ⊢
     simp only [z1]
     simp only [hblk] at h
     simp only [Option.isSome_none, Bool.false_eq_true, if_false] at h ⊢
     by_cases ho : o < cc.size
     ·rw [Array.getElem?_eq_getElem ho]; rfl
     ·rw [Array.getElem?_eq_none (by simpa using ho)] at h; cases h
    ·rw [cell_same (hcell b' hlt hb)] at h; exact h
  ·intro j p ent hp he
   cases j with
   | succ j => simp at he
   | zero =>
    simp only [List.getElem?_cons_zero, Option.some.injEq] at he
    subst he
    right
    exact ⟨0, p, _, hp, rfl, rfl, fun _ => rfl⟩
 ·obtain ⟨v, tb, rfl, c1, c2, c3, c4, c5, c6, c7⟩ := core E w vs hgl hin
  refine Calls.mono (hcall (E.ok (tbOf [.box .nilp false]) .err) w tb _ c7 c5 (free_frozen c3 c5) v c6) ?_
  rintro e w' (⟨q1, rfl, q3⟩ | ⟨y', b, q1, _⟩)
  rotate_left
  ·rw [hn] at q1; cases q1
  refine ⟨.bool false, E, rfl, rfl, ?_, ?_, rfl, rfl, fun _ _ => rfl, ?_, ?_, ?_⟩
  ·intro j ent he
   cases j with
   | succ j => simp at he
   | zero =>
    simp only [List.getElem?_cons_zero, Option.some.injEq] at he
    subst he
    obtain ⟨cc, el, lo, hi, z1, z2⟩ := c3
    refine ⟨tb, [.pointer none], c1, Nat.lt_of_lt_of_le c2 q3.size, ?_, rfl, rfl, fun _ => ⟨cc, el, lo, hi, (q3.block tb c2).trans z1, z2⟩, c4⟩
    intro i v hi'
    cases i with
    | zero =>
     simp only [List.getElem?_cons_zero, Option.some.injEq] at hi'
     subst hi'
     exact q3.cell c5
    | succ i => simp at hi'
  ·intro i j p q e f' _ _ hi' hj
   cases i with
   | succ i => simp at hi'
   | zero =>
    cases j with
    | succ j => simp at hj
    | zero => intro _; rfl
  ·intro j hj ent he
   exact ⟨_, he, SameForm.refl, id⟩
  ·refine ⟨q3.os, q3.tape, q3.output, q3.size, fun b' hb _ => q3.block b' hb, fun b' o h => ?_, fun b' o hlt h => by rw [cell_same (q3.block b' hlt)] at h; exact h⟩
   cases hq : w.cell? ⟨b', o, none⟩ with
   | none => rw [hq] at h; cases h
   | some v => rw [q3.cell hq]; rfl
  ·intro j p ent hp he
   right
   refine ⟨j, p, ent, hp, he, rfl, id⟩
end Go.Ab
