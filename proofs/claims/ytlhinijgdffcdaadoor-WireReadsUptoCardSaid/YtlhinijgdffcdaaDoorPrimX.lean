/- PrimX: a part of the proofs of this seat's statements. -/
import Derived.Test.YtlhinijgdffcdaaDoorDef
import Derived.Test.YtlhinijgdffcdaaDoorClone
import Derived.Lib.Bytealg
/- Plain functions of what is walked by hand. -/
namespace Go.Ab
/-- the first place of a byte -/
def idxB : List Int → Int → Int
  | [], _ => -1
  | x :: r, c => bif decide (x = c) then 0 else (bif decide (idxB r c < 0) then -1 else idxB r c + 1)
/-- one of two ways on -/
def optK {α β : Type} (o : Option α) (s : α → β) (n : β) : β :=
  match o with
  | some x => s x
  | none => n
/-- the first error of a type in a chain -/
def Err.find (t : Nat) : Err → Option Err
  | .nil => none
  | .leaf u xs => bif decide (u = t) then some (.leaf u xs) else none
  | .wrap u pre x post => bif decide (u = t) then some (.wrap u pre x post) else Err.find t x
  | .raw _ _ => none
/-- an error's numbers, and what it wraps -/
def Err.num (i : Nat) : Err → Int
  | .leaf _ xs => xs.getD i 0
  | .wrap _ pre _ post => (pre ++ post).getD i 0
  | _ => 0
def Err.inner : Err → Err
  | .wrap _ _ x _ => x
  | _ => .nil
/-- is there an error with a first number? -/
def Err.any (n : Int) : Err → Bool
  | .leaf _ xs => decide (xs.getD 0 0 = n)
  | .wrap _ pre x post => bif decide ((pre ++ post).getD 0 0 = n) then true else Err.any n x
  | _ => false
/-- is there an error of a kind? (0 is none) -/
def Err.isK (n : Int) (x : Err) : Bool := bif decide (n = 0) then false else Err.any n x
/-- a chain of the program's own types: (type, numbers) of those that wrap nothing, (type, numbers ahead, numbers behind) of those that wrap -/
def Err.fit (L : List (Nat × Nat)) (W : List (Nat × Nat × Nat)) : Err → Bool
  | .nil => true
  | .leaf t xs => L.contains (t, xs.length)
  | .wrap t pre x post => W.contains (t, pre.length, post.length) && Err.fit L W x
  | .raw _ _ => false
end Go.Ab

/- Functions whose contracts are walked by hand: what a call comes to. -/
namespace Go.Ab
open Go Go.RowKit
set_option linter.unusedVariables false
set_option linter.unusedSimpArgs false

theorem npF_nil (raw : FuncId → Bool) (f : FuncId) : npF raw f [] = 0 := by unfold npF; split <;> rfl

/-- a function that turns nothing -/
theorem fn_pure {P : Program} {gl : Nat → Option S} {f : FuncId} {args : List S} {v : S} (enter : ∀ (as : Array Value) (w : World), (callFunc f as).run P w = .ok (.enter f as) w)
    (h : ∀ (E : Env) (w : World) (vs : List Value), E.gl = gl → FnIn E w args [] vs → Calls P f vs.toArray w fun en w' => ∃ rv, en = .returned rv ∧ w' = w ∧ RelV E (tbOf []) w v rv) : FnOk P gl f 0 args [] v [] := by
  refine ⟨enter, fun E w vs hgl hin => Calls.mono (h E w vs hgl hin) ?_⟩
  rintro en w' ⟨rv, rfl, rfl, hr⟩
  refine ⟨rv, E, rfl, hr, ?_, ?_, rfl, rfl, ?_, ?_, ⟨rfl, rfl, rfl, Nat.le_refl _, fun _ _ _ => rfl, fun _ _ h => h, fun _ _ _ h => h⟩, ?_⟩
  · intro k e he; simp at he
  · intro k j p q e f _ _ he; simp at he
  · intro k hk; omega
  · intro k hk; omega
  · intro k p e _ he; simp at he

theorem idx_eq : ∀ (l : List UInt8) (c : Int), 0 ≤ c → c ≤ 255 → Lib.indexByte l c.toNat.toUInt8 = idxB (l.map fun b => (b.toNat : Int)) c
  | [], c, h0, h1 => rfl
  | b :: l, c, h0, h1 => by
    have ih := idx_eq l c h0 h1
    have hge := Lib.indexByte_ge l c.toNat.toUInt8
    unfold Lib.indexByte
    simp only [List.map_cons, idxB]
    rw [← ih]
    have hb : (b == c.toNat.toUInt8) = decide ((b.toNat : Int) = c) := by
      have hbl := b.toNat_lt
      rw [Bool.eq_iff_iff, beq_iff_eq, decide_eq_true_eq]
      constructor
      · rintro rfl
        rw [UInt8.toNat_ofNat']
        omega
      · intro h
        have : b.toNat = c.toNat := by omega
        apply UInt8.toNat_inj.1
        rw [UInt8.toNat_ofNat', this]
        omega
    rw [hb]
    cases hd : decide ((b.toNat : Int) = c) with
    | true => simp
    | false =>
      simp only [Bool.false_eq_true, if_false, cond_false]
      by_cases hm : Lib.indexByte l c.toNat.toUInt8 = -1
      · rw [hm]; simp
      · have : ¬ Lib.indexByte l c.toNat.toUInt8 < 0 := by omega
        simp [hm, this]
theorem rte_form {w : World} {ok : Nat → Prop} {y : Err} {c : Value} (h : RtE w ok y [c]) : (y = .nil ∧ c = .nilIface) ∨ (y.isNil = false ∧ ∃ t z, c = .iface t z) := by
  cases y with
  | nil => left; exact ⟨rfl, by have h : [c] = [Value.nilIface] := h; simpa using h⟩
  | leaf t xs => right; obtain ⟨b, h1, _⟩ := h; exact ⟨rfl, _, _, by simpa using h1⟩
  | wrap t pre x post => right; obtain ⟨b, d, h1, _⟩ := h; exact ⟨rfl, _, _, by simpa using h1⟩
  | raw t z => right; have h : [c] = [Value.iface t z] := h; exact ⟨rfl, t, z, by simpa using h⟩
theorem eql_iface_nil {P : Program} {t : TypeId} {ms : Array (String × TypeId)} (h : P.underlying t = some (.interface ms)) (k : TypeId) (z : Value) (w : World) : (binOp .eql t (.iface k z) .nilIface).run P w = .ok (.bool false) w := by
  have := equal_iface_nil (w := w) h 9999 k z
  simp only [binOp, Op.equal, Op.maxDepth, Sem.run_bind, this, Result.andThen_ok, Sem.run_pure]
theorem eql_nil_nil {P : Program} {t : TypeId} {ms : Array (String × TypeId)} (h : P.underlying t = some (.interface ms)) (w : World) : (binOp .eql t .nilIface .nilIface).run P w = .ok (.bool true) w := by
  have := equal_nil_nil (w := w) h 9999
  simp only [binOp, Op.equal, Op.maxDepth, Sem.run_bind, this, Result.andThen_ok, Sem.run_pure]
/-- a world that has only grown -/
structure Ext (w w' : World) : Prop where
  size : w.heap.size ≤ w'.heap.size
  block : ∀ b, b < w.heap.size → w'.heap[b]? = w.heap[b]?
  os : w'.os = w.os
  tape : w'.tape = w.tape
  output : w'.output = w.output
theorem Ext.refl (w : World) : Ext w w := ⟨Nat.le_refl _, fun _ _ => rfl, rfl, rfl, rfl⟩
theorem Ext.alloc {w w' : World} (h : Ext w w') (o : Obj) : Ext w (w'.alloc o) := by
  obtain ⟨h1, h2, h3, h4, h5⟩ := h
  refine ⟨?_, fun b hb => ?_, h3, h4, h5⟩
  · show _ ≤ (w'.heap.push o).size
    simp; omega
  · show (w'.heap.push o)[b]? = _
    rw [Array.getElem?_push, if_neg (by omega)]
    exact h2 b hb
theorem Ext.cell {w w' : World} (h : Ext w w') {b o : Nat} {v : Value} (hv : w.cell? ⟨b, o, none⟩ = some v) : w'.cell? ⟨b, o, none⟩ = some v := by
  rw [cell_same (h.block b (cell_lt hv))]; exact hv
theorem Ext.rte {w w' : World} (h : Ext w w') {ok : Nat → Prop} {x : Err} {cs : List Value} (hx : RtE w ok x cs) : RtE w' ok x cs :=
  RtE.mono (fun b hb hlt => ⟨hb, Nat.lt_of_lt_of_le hlt h.size⟩) (fun b _ o v hv => h.cell hv) hx
/-- a fact that the walk's own set is not to use -/
structure Hid (p : Prop) : Prop where
  out : p
theorem Ext.set {w w' : World} (h : Ext w w') {b : Nat} (hb : b < w.heap.size) (v : Value) : Ext (w.setCell ⟨b, 0, none⟩ v) (w'.setCell ⟨b, 0, none⟩ v) := by
  obtain ⟨h1, h2, h3, h4, h5⟩ := h
  refine ⟨?_, fun c hc => ?_, h3, h4, h5⟩
  · unfold World.setCell; simpa using h1
  · have hc' : c < w.heap.size := by unfold World.setCell at hc; simpa using hc
    unfold World.setCell
    simp only [Array.getElem?_modify, h2 c hc']
theorem fit_wrap {L : List (Nat × Nat)} {W : List (Nat × Nat × Nat)} {u : Nat} {pre post : List Int} {y : Err} (h : Err.fit L W (.wrap u pre y post) = true) : (u, pre.length, post.length) ∈ W ∧ Err.fit L W y = true := by
  simp only [Err.fit, Bool.and_eq_true, List.contains_iff_mem] at h
  exact h
theorem fit_leaf {L : List (Nat × Nat)} {W : List (Nat × Nat × Nat)} {u : Nat} {xs : List Int} (h : Err.fit L W (.leaf u xs) = true) : (u, xs.length) ∈ L := by
  simpa only [Err.fit, List.contains_iff_mem] using h
theorem idxB_rng : ∀ (s : List Int) (c : Int), -1 ≤ idxB s c ∧ idxB s c < s.length
  | [], c => by simp [idxB]
  | x :: r, c => by
    have ih := idxB_rng r c
    simp only [idxB, List.length_cons]
    cases decide (x = c) with
    | true => simp only [cond_true]; omega
    | false =>
      simp only [cond_false]
      cases hd : decide (idxB r c < 0) with
      | true => simp only [cond_true]; omega
      | false => have := of_decide_eq_false hd; simp only [cond_false]; omega
end Go.Ab

/- errors.As: from its walk to what a call comes to. -/
namespace Go.Ab
open Go Go.RowKit
set_option linter.unusedVariables false
set_option linter.unusedSimpArgs false

theorem free_frozen {w : World} {b : Nat} {v : Value} (h : FreeBlk w b) (hv : w.cell? ⟨b, 0, none⟩ = some v) : w.frozen? ⟨b, 0, none⟩ = false := by
  obtain ⟨c, el, lo, hi, h1, h2⟩ := h
  unfold World.cell? at hv
  simp only [h1] at hv
  unfold World.frozen?
  simp only [h1]
  have h3 : 0 < c.size := by
    apply Classical.byContradiction
    intro hn
    simp [Array.getElem?_eq_none (by omega : c.size ≤ 0)] at hv
  rw [Bool.and_eq_false_iff, decide_eq_false_iff_not, decide_eq_false_iff_not]
  omega

section
variable {w : World} {b : Nat} {v : Value}
theorem setCell_same {b' : Nat} (h : b' ≠ b) : (w.setCell ⟨b, 0, none⟩ v).heap[b']? = w.heap[b']? := by
  unfold World.setCell
  simp only [Array.getElem?_modify]
  rw [if_neg (Ne.symm h)]
theorem setCell_size : (w.setCell ⟨b, 0, none⟩ v).heap.size = w.heap.size := by
  unfold World.setCell; simp
theorem setCell_blk {c : Array Value} {el : TypeId} {fz : Nat × Nat} (h : w.heap[b]? = some (.cells c el fz)) : (w.setCell ⟨b, 0, none⟩ v).heap[b]? = some (.cells (c.setIfInBounds 0 v) el fz) := by
  unfold World.setCell
  simp only [Array.getElem?_modify, if_true, h, Option.map_some]
  simp
end

theorem gd_some {α : Type} {b : Bool} {x : Option α} {r : α} (h : gd b x = some r) : b = true ∧ x = some r := by
  cases b with
  | true => exact ⟨rfl, h⟩
  | false => exact no_some h
theorem find_type {k : Nat} : ∀ {x y : Err}, Err.find k x = some y → (∃ xs, y = .leaf k xs) ∨ ∃ pre z post, y = .wrap k pre z post
  | .nil, y, h => by simp [Err.find] at h
  | .raw _ _, y, h => by simp [Err.find] at h
  | .leaf u xs, y, h => by
    simp only [Err.find] at h
    by_cases hu : u = k
    · subst hu; simp at h; exact .inl ⟨xs, h.symm⟩
    · simp [hu] at h
  | .wrap u pre x post, y, h => by
    simp only [Err.find] at h
    by_cases hu : u = k
    · subst hu; simp at h; exact .inr ⟨pre, x, post, h.symm⟩
    · simp [hu] at h; exact find_type h
theorem find_fit {L : List (Nat × Nat)} {W : List (Nat × Nat × Nat)} {k : Nat} : ∀ {x y : Err}, Err.fit L W x = true → Err.find k x = some y → Err.fit L W y = true
  | .nil, y, _, h => by simp [Err.find] at h
  | .raw _ _, y, _, h => by simp [Err.find] at h
  | .leaf u xs, y, hf, h => by
    simp only [Err.find] at h
    by_cases hu : u = k
    · subst hu; simp at h; rw [← h]; exact hf
    · simp [hu] at h
  | .wrap u pre x post, y, hf, h => by
    simp only [Err.find] at h
    by_cases hu : u = k
    · subst hu; simp at h; rw [← h]; exact hf
    · simp [hu] at h; exact find_fit (fit_wrap hf).2 h

/-- flat data say nothing of memory -/
theorem Rt.flatW {w w' : World} {ok ok' : Ty → Nat → Prop} : ∀ {t : Ty} {cs : List Value} {x : t.den}, flatTy t = true → Rt w ok t cs x → Rt w' ok' t cs x := by
  intro t
  induction t with
  | nw k => intro cs x _ h; exact h
  | int k => intro cs x _ h; exact h
  | bool => intro cs x _ h; exact h
  | str => intro cs x _ h; exact h
  | slice e _ => intro cs x hf; simp [flatTy] at hf
  | rose a _ => intro cs x hf; simp [flatTy] at hf
  | err => intro cs x hf; simp [flatTy] at hf
  | arr n e ih =>
    intro cs x hf h
    simp only [flatTy] at hf
    obtain ⟨hl, css, rfl, hn, hel⟩ := h
    refine ⟨hl, css, rfl, hn, fun i hi => ?_⟩
    obtain ⟨ecs, he, hr⟩ := hel i hi
    exact ⟨ecs, he, ih hf hr⟩
  | unit => intro cs x _ h; exact h
  | pair a b iha ihb =>
    intro cs x hf h
    simp only [flatTy, Bool.and_eq_true] at hf
    obtain ⟨c1, c2, h1, h2, h3⟩ := h
    exact ⟨c1, c2, h1, iha hf.1 h2, ihb hf.2 h3⟩

/-- what a call of errors.As comes to -/
theorem as_ok {P : Program} {gl : Nat → Option S} {raw : FuncId → Bool} {f : FuncId} {tpp k rt : TypeId} {rv : Value} {ty : Ty} {x : Err} (enter : ∀ (as : Array Value) (w : World), (callFunc f as).run P w = .ok (.enter f as) w)
    (hglob : gl 0 = some (.err (.raw rt rv)))
    (hcall : ∀ (ok : Nat → Prop) (w : World) (tb : Nat) (oldv : Value), w.cell? ⟨0, 0, none⟩ = some (.iface rt rv) → w.cell? ⟨tb, 0, none⟩ = some oldv → w.frozen? ⟨tb, 0, none⟩ = false → ∀ (v : Value), RtE w ok x [v] →
      Calls P f #[v, .iface tpp (.pointer (some ⟨tb, 0, none⟩))] w fun e w' => (Err.find k x = none ∧ e = .returned (.bool false) ∧ Ext w w') ∨
        ∃ y b, Err.find k x = some y ∧ e = .returned (.bool true) ∧ RtE w ok y [.iface k (.pointer (some ⟨b, 0, none⟩))] ∧ Ext (w.setCell ⟨tb, 0, none⟩ (.pointer (some ⟨b, 0, none⟩))) w')
    {den : Err → ty.den} (hden : ∀ (ok : Nat → Prop) (w : World) (y : Err) (b : Nat), Err.find k x = some y → RtE w ok y [.iface k (.pointer (some ⟨b, 0, none⟩))] → ok b ∧ b < w.heap.size ∧ ∃ ecs, Lies w b 0 ecs ∧ Rt w (fun _ _ => True) ty ecs (den y)) (hflat : flatTy ty = true) :
    (∀ y, Err.find k x = some y → FnOk P gl f (npF raw f [.box .nilp false]) [.err x, .iface tpp (.ptr 0 [])] [.box .nilp false] (.bool true) [.box (.iref ty (den y)) false]) ∧
    (Err.find k x = none → FnOk P gl f (npF raw f [.box .nilp false]) [.err x, .iface tpp (.ptr 0 [])] [.box .nilp false] (.bool false) [.box .nilp false]) := by
  have hnp : npF raw f [.box .nilp false] = 1 := by unfold npF; split <;> rfl
  rw [hnp]
  have core : ∀ (E : Env) (w : World) (vs : List Value), E.gl = gl → FnIn E w [.err x, .iface tpp (.ptr 0 [])] [.box .nilp false] vs → ∃ v tb, vs = [v, .iface tpp (.pointer (some ⟨tb, 0, none⟩))] ∧ E.κ 0 = some (tb, 0) ∧ tb < w.heap.size ∧ FreeBlk w tb ∧ (∀ t, ¬ E.av t tb) ∧
      w.cell? ⟨tb, 0, none⟩ = some (.pointer none) ∧ RtE w (E.ok (tbOf [.box .nilp false]) .err) x [v] ∧ w.cell? ⟨0, 0, none⟩ = some (.iface rt rv) := by
    intro E w vs hgl hin
    obtain ⟨v, q, rfl, h1, u, q2, rfl, h2, h3⟩ := hin.vals
    cases h3
    have h1 : RtE w (E.ok (tbOf [.box .nilp false]) .err) x [v] := h1
    obtain ⟨b, cs, e1, e2, e3, e4, e5, e6, e7⟩ := hin.ent 0 _ rfl
    have e4 : cs = [Value.pointer none] := e4
    subst e4
    have h2 : ∃ v', [u] = [Value.iface tpp v'] ∧ Rel E (tbOf [.box .nilp false]) w (.ptr 0 []) [v'] := h2
    obtain ⟨v', hv, h2⟩ := h2
    have hh : (∃ b o, E.κ 0 = some (b, o) ∧ [v'] = [Value.pointer (some ⟨b, o + 0, none⟩)]) := h2.2
    obtain ⟨b', o', h4, h5⟩ := hh
    rw [e1] at h4
    simp only [Option.some.injEq, Prod.mk.injEq] at h4
    obtain ⟨rfl, rfl⟩ := h4
    obtain ⟨gv, g1, cs, g2, g3, g4⟩ := hin.glob 0 _ (by rw [hgl]; exact hglob)
    have g3 : cs = [Value.iface rt rv] := g3
    subst g3
    refine ⟨v, b, ?_, e1, e2, e6 rfl, e7, e3 0 _ rfl, h1, g2 0 _ rfl⟩
    rw [(List.cons.inj hv).1, (List.cons.inj h5).1]
  have okeq : ∀ (E : Env) (s : S) (t : Ty) b, E.ok (tbOf [.box .nilp false]) t b → E.ok (tbOf [.box s false]) t b := by
    intro E s t b h
    refine ⟨h.1, fun k p e hp he hf => ?_⟩
    cases k with
    | zero => exact h.2 0 p _ hp rfl rfl
    | succ k => simp [tbOf] at he
  refine ⟨fun y hy => ⟨enter, fun E w vs hgl hin => ?_⟩, fun hn => ⟨enter, fun E w vs hgl hin => ?_⟩⟩
  · obtain ⟨v, tb, rfl, c1, c2, c3, c4, c5, c6, c7⟩ := core E w vs hgl hin
    refine Calls.mono (hcall (E.ok (tbOf [.box .nilp false]) .err) w tb _ c7 c5 (free_frozen c3 c5) v c6) ?_
    rintro e w' (⟨q1, _⟩ | ⟨y', b, q1, rfl, q2, q3⟩)
    · rw [hy] at q1; cases q1
    rw [hy] at q1; cases q1
    obtain ⟨d1, d2, ecs, d3, d4⟩ := hden _ _ _ _ hy q2
    have hbt : b ≠ tb := fun h => d1.2 0 _ _ c1 rfl rfl h.symm
    have hcell : ∀ b', b' < w.heap.size → b' ≠ tb → w'.heap[b']? = w.heap[b']? := fun b' hb hne => by
      rw [q3.block b' (by rw [setCell_size]; exact hb), setCell_same hne]
    obtain ⟨cc, el, lo, hi, z1, z2⟩ := c3
    have hsz : 0 < cc.size := by
      apply Classical.byContradiction
      intro hn
      simp [World.cell?, z1, Array.getElem?_eq_none (by omega : cc.size ≤ 0)] at c5
    have hblk : w'.heap[tb]? = some (.cells (cc.setIfInBounds 0 (.pointer (some ⟨b, 0, none⟩))) el (lo, hi)) := by
      rw [q3.block tb (by rw [setCell_size]; exact c2)]
      exact setCell_blk z1
    have hsize : w.heap.size ≤ w'.heap.size := by have := q3.size; rwa [setCell_size] at this
    refine ⟨.bool true, E, rfl, rfl, ?_, ?_, rfl, rfl, fun _ _ => rfl, ?_, ?_, ?_⟩
    · intro j ent he
      cases j with
      | succ j => simp at he
      | zero =>
        simp only [List.getElem?_cons_zero, Option.some.injEq] at he
        subst he
        refine ⟨tb, [.pointer (some ⟨b, 0, none⟩)], c1, by omega, ?_, ?_, rfl, fun _ => ⟨_, el, lo, hi, hblk, ?_⟩, c4⟩
        · intro i v hi'
          cases i with
          | zero =>
            simp only [List.getElem?_cons_zero, Option.some.injEq] at hi'
            subst hi'
            unfold World.cell?
            simp only [hblk]
            simp [hsz]
          | succ i => simp at hi'
        · refine ⟨b, 0, ecs, rfl, ⟨.err, okeq E _ _ b d1⟩, by omega, ?_, ?_⟩
          · exact d3.mono fun o v hv => by rw [cell_same (hcell b d2 hbt)]; exact hv
          · exact Rt.flatW hflat d4
        · simpa using z2
    · intro i j p q e f' _ _ hi' hj
      cases i with
      | succ i => simp at hi'
      | zero =>
        cases j with
        | succ j => simp at hj
        | zero => intro _; rfl
    · intro j hj ent he
      cases j with
      | succ j => omega
      | zero =>
        simp only [List.getElem?_cons_zero, Option.some.injEq] at he
        subst he
        exact ⟨_, rfl, .inr rfl, fun h => by cases h⟩
    · refine ⟨q3.os, q3.tape, q3.output, hsize, fun b' hb hn => ?_, fun b' o h => ?_, fun b' o hlt h => ?_⟩
      · refine hcell b' hb fun h => hn ⟨0, _, _, c1, rfl, h.symm, fun _ => rfl⟩
      · cases hq : w.cell? ⟨b', o, none⟩ with
        | none => rw [hq] at h; cases h
        | some v =>
          by_cases hb : b' = tb
          · subst hb
            unfold World.cell? at hq ⊢
            simp only [z1] at hq
            simp only [hblk]
            simp only [Option.isSome_none, Bool.false_eq_true, if_false] at hq ⊢
            by_cases ho : o < cc.size
            · rw [Array.getElem?_eq_getElem (by simpa using ho)]; rfl
            · rw [Array.getElem?_eq_none (by omega)] at hq; cases hq
          · rw [cell_same (hcell b' (cell_lt hq) hb), hq]; rfl
      · by_cases hb : b' = tb
        · subst hb
          unfold World.cell? at h ⊢
          simp only [z1]
          simp only [hblk] at h
          simp only [Option.isSome_none, Bool.false_eq_true, if_false] at h ⊢
          by_cases ho : o < cc.size
          · rw [Array.getElem?_eq_getElem ho]; rfl
          · rw [Array.getElem?_eq_none (by simpa using ho)] at h; cases h
        · rw [cell_same (hcell b' hlt hb)] at h; exact h
    · intro j p ent hp he
      cases j with
      | succ j => simp at he
      | zero =>
        simp only [List.getElem?_cons_zero, Option.some.injEq] at he
        subst he
        right
        exact ⟨0, p, _, hp, rfl, rfl, fun _ => rfl⟩
  · obtain ⟨v, tb, rfl, c1, c2, c3, c4, c5, c6, c7⟩ := core E w vs hgl hin
    refine Calls.mono (hcall (E.ok (tbOf [.box .nilp false]) .err) w tb _ c7 c5 (free_frozen c3 c5) v c6) ?_
    rintro e w' (⟨q1, rfl, q3⟩ | ⟨y', b, q1, _⟩)
    rotate_left
    · rw [hn] at q1; cases q1
    refine ⟨.bool false, E, rfl, rfl, ?_, ?_, rfl, rfl, fun _ _ => rfl, ?_, ?_, ?_⟩
    · intro j ent he
      cases j with
      | succ j => simp at he
      | zero =>
        simp only [List.getElem?_cons_zero, Option.some.injEq] at he
        subst he
        obtain ⟨cc, el, lo, hi, z1, z2⟩ := c3
        refine ⟨tb, [.pointer none], c1, Nat.lt_of_lt_of_le c2 q3.size, ?_, rfl, rfl, fun _ => ⟨cc, el, lo, hi, (q3.block tb c2).trans z1, z2⟩, c4⟩
        intro i v hi'
        cases i with
        | zero =>
          simp only [List.getElem?_cons_zero, Option.some.injEq] at hi'
          subst hi'
          exact q3.cell c5
        | succ i => simp at hi'
    · intro i j p q e f' _ _ hi' hj
      cases i with
      | succ i => simp at hi'
      | zero =>
        cases j with
        | succ j => simp at hj
        | zero => intro _; rfl
    · intro j hj ent he
      exact ⟨_, he, SameForm.refl, id⟩
    · refine ⟨q3.os, q3.tape, q3.output, q3.size, fun b' hb _ => q3.block b' hb, fun b' o h => ?_, fun b' o hlt h => by rw [cell_same (q3.block b' hlt)] at h; exact h⟩
      cases hq : w.cell? ⟨b', o, none⟩ with
      | none => rw [hq] at h; cases h
      | some v => rw [q3.cell hq]; rfl
    · intro j p ent hp he
      right
      refine ⟨j, p, ent, hp, he, rfl, id⟩
end Go.Ab

/- A slice of bytes written over up to its room: what a call of Spoil comes to. -/
namespace Go.Ab
open Go
set_option linter.unusedVariables false
set_option linter.unusedSimpArgs false

theorem heap_setCell_other (w : World) (a : Addr) (k : Nat) (v : Value) (h : k ≠ a.block) : (w.setCell a v).heap[k]? = w.heap[k]? := by
  unfold World.setCell
  simp only [Array.getElem?_modify]
  rw [if_neg (Ne.symm h)]
theorem heap_setCell_same' {w : World} {b i : Nat} {cs : Array Value} {T : TypeId} {fr : Nat × Nat} (hb : w.heap[b]? = some (.cells cs T fr)) (v : Value) : (w.setCell ⟨b, i, none⟩ v).heap[b]? = some (.cells (cs.setIfInBounds i v) T fr) := by
  unfold World.setCell
  simp [Array.getElem?_modify, hb]
theorem cell?_setCell_some' {w : World} {p q : Addr} {x v : Value} (h : w.cell? q = some v) : ∃ v', (w.setCell p x).cell? q = some v' := by
  by_cases hpq : p = q
  · subst hpq; exact ⟨x, World.cell?_setCell_same _ _ _ h⟩
  · exact ⟨v, by rw [World.cell?_setCell_other _ _ _ _ hpq]; exact h⟩
/-- so many cells written over -/
def spW (w : World) (b o : Nat) : Nat → World
  | 0 => w
  | k + 1 => (spW w b o k).setCell ⟨b, o + k, none⟩ (.int .u8 90)
theorem sp_cell (w : World) (b o cap : Nat) (h : ∀ i, i < cap → (w.cell? ⟨b, o + i, none⟩).isSome ∧ w.frozen? ⟨b, o + i, none⟩ = false) : ∀ k i, i < cap → (∃ v, (spW w b o k).cell? ⟨b, o + i, none⟩ = some v) ∧ (spW w b o k).frozen? ⟨b, o + i, none⟩ = false
  | 0, i, hi => ⟨Option.isSome_iff_exists.1 (h i hi).1, (h i hi).2⟩
  | k + 1, i, hi => by
    obtain ⟨⟨v, h1⟩, h2⟩ := sp_cell w b o cap h k i hi
    refine ⟨cell?_setCell_some' h1, ?_⟩
    show ((spW w b o k).setCell _ _).frozen? _ = false
    rw [World.frozen?_setCell]; exact h2
/-- what it leaves: the block's cells, as many as there were -/
theorem spW_spec (w : World) (b o : Nat) (c : Array Value) (el : TypeId) (fz : Nat × Nat) (h : w.heap[b]? = some (.cells c el fz)) : ∀ k, k = 0 ∨ o + k ≤ c.size →
    (spW w b o k).os = w.os ∧ (spW w b o k).tape = w.tape ∧ (spW w b o k).output = w.output ∧ (spW w b o k).heap.size = w.heap.size ∧ (∀ b', b' ≠ b → (spW w b o k).heap[b']? = w.heap[b']?) ∧
    ∃ c', (spW w b o k).heap[b]? = some (.cells c' el fz) ∧ c'.size = c.size ∧ ∀ j, j < k → c'[o + j]? = some (.int .u8 90)
  | 0, _ => ⟨rfl, rfl, rfl, rfl, fun _ _ => rfl, c, h, rfl, fun j hj => by omega⟩
  | k + 1, hk => by
    obtain ⟨h1, h2, h3, h4, h5, c', h6, h7, h8⟩ := spW_spec w b o c el fz h k (.inr (by omega))
    refine ⟨h1, h2, h3, by show ((spW w b o k).setCell _ _).heap.size = _; rw [World.size_setCell]; exact h4, fun b' hb' => by rw [← h5 b' hb']; exact heap_setCell_other _ _ _ _ hb', c'.setIfInBounds (o + k) (.int .u8 90), heap_setCell_same' h6 _, by simpa using h7, fun j hj => ?_⟩
    by_cases hjk : j = k
    · subst hjk
      rw [Array.getElem?_setIfInBounds_self_of_lt (by omega)]
    · rw [Array.getElem?_setIfInBounds_ne (by omega)]
      exact h8 j (by omega)

/-- what is known of Spoil's own text -/
structure SpWalk (P : Program) (f : FuncId) : Prop where
  enter : ∀ (as : Array Value) (w : World), (callFunc f as).run P w = .ok (.enter f as) w
  none : ∀ (a : Option Addr) (w : World), Calls P f #[.slice a 0 0] w fun en w' => en = .returned (.tuple #[]) ∧ w' = w
  some : ∀ (w : World) (b o n cap : Nat), n ≤ cap → cap ≤ CAPM → (∀ i, i < cap → (w.cell? ⟨b, o + i, Option.none⟩).isSome ∧ w.frozen? ⟨b, o + i, Option.none⟩ = false) →
    Calls P f #[.slice (Option.some ⟨b, o, Option.none⟩) n cap] w fun en w' => en = .returned (.tuple #[]) ∧ w' = spW w b o cap
theorem spoil_out {E : Env} {w w' : World} {es : List Ent} {xs : List Int} (hxl : xs.length ≤ MAXL) {b o : Nat} (hκ : E.κ 0 = Option.some (b, o)) (hes : es = [.buf (.int .u8) xs false]) {c : Array Value} {el : TypeId} {lo hi : Nat}
    (hb : w.heap[b]? = Option.some (.cells c el (lo, hi))) (hfz : lo = hi ∨ c.size ≤ lo) (hav : ∀ t, ¬ E.av t b) {cap : Nat} (hcap : xs.length ≤ cap) (hlen : cap = 0 ∨ o + cap ≤ c.size) (hw : w' = spW w b o cap) :
    FnOut E w es 1 E w' [.buf (.int .u8) (List.replicate xs.length 90 : List Int) false] (.tup []) (.tuple #[]) := by
  subst hes
  obtain ⟨h1, h2, h3, h4, h5, c', h6, h7, h8⟩ := spW_spec w b o c el (lo, hi) hb cap hlen
  rw [← hw] at h1 h2 h3 h4 h5 h6
  have hlt : b < w'.heap.size := by
    apply Classical.byContradiction
    intro hn
    rw [Array.getElem?_eq_none (by omega)] at h6; cases h6
  have zero : ∀ {k : Nat} {e : Ent}, ([Ent.buf (.int .u8) (List.replicate xs.length 90 : List Int) false] : List Ent)[k]? = Option.some e → k = 0 ∧ e = .buf (.int .u8) (List.replicate xs.length 90 : List Int) false := by
    intro k e he
    cases k with
    | zero => simp at he; exact ⟨rfl, he.symm⟩
    | succ k => simp at he
  refine ⟨?_, ?_, ?_, rfl, rfl, fun _ _ => rfl, ?_, ?_, ?_⟩
  · rw [relV_scalar rfl]
    exact ⟨[], rfl, rfl⟩
  · intro k e he
    obtain ⟨rfl, rfl⟩ := zero he
    refine ⟨by simpa using hxl, ?_⟩
    rw [hκ]
    refine ⟨hlt, hav, fun _ => ⟨c', el, lo, hi, h6, by rw [h7]; exact hfz⟩, fun i hi' => ?_⟩
    have hi2 : i < xs.length := by simpa using hi'
    refine ⟨[.int .u8 90], ?_, ?_⟩
    · intro j v hj
      cases j with
      | zero =>
        simp at hj; subst hj
        have := h8 i (by omega)
        unfold World.cell?
        simp only [h6, Ty.size, Nat.mul_one, Nat.add_zero]
        exact this
      | succ j => simp at hj
    · have : (List.replicate xs.length (90 : Int))[i]'hi' = 90 := by simp
      show [Value.int .u8 90] = [.int .u8 ((List.replicate xs.length (90 : Int))[i]'hi')] ∧ inK .u8 ((List.replicate xs.length (90 : Int))[i]'hi') = true
      rw [this]; exact ⟨rfl, by decide⟩
  · intro k j p q e f hp hq he hf _
    rw [(zero he).1, (zero hf).1]
  · intro k hk e' he'
    obtain ⟨rfl, rfl⟩ := zero he'
    exact ⟨_, rfl, ⟨rfl, by simp⟩, fun h => by cases h⟩
  · refine ⟨h1, h2, h3, by omega, fun b' hb' hno => h5 b' fun q => hno ⟨0, (b, o), _, hκ, rfl, q.symm, fun _ => rfl⟩, fun b' o' hs => ?_, fun b' o' hlt' hs => ?_⟩
    · by_cases hq : b' = b
      · subst hq
        unfold World.cell? at hs ⊢
        simp only [hb, h6] at hs ⊢
        simp at hs ⊢
        omega
      · unfold World.cell? at hs ⊢
        simp only [h5 b' hq]
        exact hs
    · by_cases hq : b' = b
      · subst hq
        unfold World.cell? at hs ⊢
        simp only [hb, h6] at hs ⊢
        simp at hs ⊢
        omega
      · unfold World.cell? at hs ⊢
        simp only [h5 b' hq] at hs
        exact hs
  · intro k p e hp he
    obtain ⟨rfl, rfl⟩ := zero he
    rw [hκ] at hp; cases hp
    exact .inr ⟨0, (b, o), _, hκ, rfl, rfl, fun _ => rfl⟩
theorem spoil_out0 {E : Env} {w : World} {es : List Ent} (hes : es = [.buf (.int .u8) ([] : List Int) false]) (hκ : E.κ 0 = Option.none) :
    FnOut E w es 1 E w [.buf (.int .u8) ([] : List Int) false] (.tup []) (.tuple #[]) := by
  subst hes
  have zero : ∀ {k : Nat} {e : Ent}, ([Ent.buf (.int .u8) ([] : List Int) false] : List Ent)[k]? = Option.some e → k = 0 ∧ e = .buf (.int .u8) ([] : List Int) false := by
    intro k e he
    cases k with
    | zero => simp at he; exact ⟨rfl, he.symm⟩
    | succ k => simp at he
  refine ⟨?_, ?_, ?_, rfl, rfl, fun _ _ => rfl, ?_, ⟨rfl, rfl, rfl, Nat.le_refl _, fun _ _ _ => rfl, fun _ _ h => h, fun _ _ _ h => h⟩, ?_⟩
  · rw [relV_scalar rfl]
    exact ⟨[], rfl, rfl⟩
  · intro k e he
    obtain ⟨rfl, rfl⟩ := zero he
    refine ⟨Nat.zero_le _, ?_⟩
    rw [hκ]
  · intro k j p q e f hp hq he hf _
    rw [(zero he).1, (zero hf).1]
  · intro k hk e' he'
    obtain ⟨rfl, rfl⟩ := zero he'
    exact ⟨_, rfl, ⟨rfl, rfl⟩, fun h => by cases h⟩
  · intro k p e hp he
    obtain ⟨rfl, rfl⟩ := zero he
    rw [hκ] at hp; cases hp
theorem free_cells {w : World} {b o cap : Nat} {c : Array Value} {el : TypeId} {lo hi : Nat} (hb : w.heap[b]? = Option.some (.cells c el (lo, hi))) (hfz : lo = hi ∨ c.size ≤ lo) (h : ∀ i, i < cap → (w.cell? ⟨b, o + i, Option.none⟩).isSome) :
    (∀ i, i < cap → (w.cell? ⟨b, o + i, Option.none⟩).isSome ∧ w.frozen? ⟨b, o + i, Option.none⟩ = false) ∧ (cap = 0 ∨ o + cap ≤ c.size) := by
  have hlt : ∀ i, i < cap → o + i < c.size := fun i hi => by
    have := h i hi
    unfold World.cell? at this
    simp only [hb] at this
    simpa using this
  refine ⟨fun i hi => ⟨h i hi, ?_⟩, ?_⟩
  · unfold World.frozen?
    simp only [hb]
    have := hlt i hi
    rcases hfz with q | q
    · subst q; simp <;> omega
    · simp <;> omega
  · by_cases h0 : cap = 0
    · exact .inl h0
    · have := hlt (cap - 1) (by omega); exact .inr (by omega)
theorem spoil_own {P : Program} {gl : Nat → Option S} {f : FuncId} (W : SpWalk P f) (xs : List Int) : FnOk P gl f 1 [.own (.int .u8) 0] [.buf (.int .u8) xs false] (.tup []) [.buf (.int .u8) (List.replicate xs.length 90 : List Int) false] := by
  refine ⟨W.enter, fun E w vs hgl hin => ?_⟩
  obtain ⟨v, q, rfl, hv, hq⟩ := hin.vals
  cases hq
  have hv : ∃ a cap, [v] = [.slice a xs.length cap] ∧ xs.length ≤ cap ∧ match E.κ 0 with
    | Option.some (b, o) => a = Option.some ⟨b, o, Option.none⟩ ∧ (∀ i, i < cap * 1 → (w.cell? ⟨b, o + i, Option.none⟩).isSome) ∧ cap ≤ CAPM
    | Option.none => cap = 0 := hv
  obtain ⟨a, cap, hv1, hcap, hm⟩ := hv
  simp only [List.cons.injEq, and_true] at hv1
  subst hv1
  obtain ⟨hxl, hent⟩ := hin.ent 0 _ rfl
  cases hκ : E.κ 0 with
  | none =>
    rw [hκ] at hm
    have hm : cap = 0 := hm
    have hx : xs = [] := List.eq_nil_of_length_eq_zero (by omega)
    subst hx; subst hm
    refine Calls.mono (W.none a w) ?_
    rintro en w' ⟨rfl, rfl⟩
    exact ⟨_, E, rfl, spoil_out0 rfl hκ⟩
  | some p =>
    obtain ⟨b, o⟩ := p
    rw [hκ] at hm hent
    obtain ⟨rfl, hc, hcm⟩ := hm
    obtain ⟨hblt, hnav, hfree, _⟩ := hent
    obtain ⟨c, el, lo, hi, hheap, hfr⟩ := hfree rfl
    rw [Nat.mul_one] at hc
    obtain ⟨g1, g2⟩ := free_cells hheap hfr hc
    refine Calls.mono (W.some w b o xs.length cap hcap hcm g1) ?_
    rintro en w' ⟨rfl, hw'⟩
    exact ⟨_, E, rfl, spoil_out hxl hκ rfl hheap hfr hnav hcap g2 hw'⟩
theorem spoil_twn {P : Program} {gl : Nat → Option S} {f : FuncId} (W : SpWalk P f) (n : Int) (xs : List Int) : FnOk P gl f 1 [.twn (.int .u8) 0 n] [.buf (.int .u8) xs false] (.tup []) [.buf (.int .u8) (List.replicate xs.length 90 : List Int) false] := by
  refine ⟨W.enter, fun E w vs hgl hin => ?_⟩
  obtain ⟨v, q, rfl, hv, hq⟩ := hin.vals
  cases hq
  have hv : ∃ b o, E.κ 0 = Option.some (b, o) ∧ 0 ≤ n ∧ (n.toNat ≤ xs.length ∧ Room w b o (xs.length * 1)) ∧ [v] = [.slice (Option.some ⟨b, o, Option.none⟩) n.toNat xs.length] := hv
  obtain ⟨b, o, hκ, n0, ⟨n1, _⟩, hv1⟩ := hv
  simp only [List.cons.injEq, and_true] at hv1
  subst hv1
  obtain ⟨hxl, hent⟩ := hin.ent 0 _ rfl
  rw [hκ] at hent
  obtain ⟨hblt, hnav, hfree, hrow⟩ := hent
  obtain ⟨c, el, lo, hi, hheap, hfr⟩ := hfree rfl
  have hc : ∀ i, i < xs.length → (w.cell? ⟨b, o + i, Option.none⟩).isSome := fun i hi => by
    obtain ⟨ecs, r1, r2⟩ := hrow i hi
    have r2 : ecs = [.int .u8 xs[i]] ∧ inK .u8 xs[i] = true := r2
    have := r1 0 (.int .u8 xs[i]) (by rw [r2.1]; rfl)
    simp only [Ty.size, Nat.mul_one, Nat.add_zero] at this
    rw [this]; rfl
  obtain ⟨g1, g2⟩ := free_cells hheap hfr hc
  refine Calls.mono (W.some w b o n.toNat xs.length n1 (by have : MAXL = 4611686018427387904 := rfl; unfold CAPM; omega) g1) ?_
  rintro en w' ⟨rfl, hw'⟩
  exact ⟨_, E, rfl, spoil_out hxl hκ rfl hheap hfr hnav (Nat.le_refl _) g2 hw'⟩
end Go.Ab
