/- PrimX: a part of the proofs of this seat's statements. -/
import Derived.Test.YtlihheeknnnbmaaDoorDef
import Derived.Test.YtlihheeknnnbmaaDoorClone
import Derived.Lib.Bytealg
/- Plain functions of what is walked by hand. -/
namespace Go.Ab
def idxB : List Int → Int → Int
  | [], _ => -1
  | x :: r, c => bif decide (x = c) then 0 else (bif decide (idxB r c < 0) then -1 else idxB r c + 1)
def Err.inner : Err → Err
  | .wrap _ _ x _ => x
  | _ => .nil
def Err.any (n : Int) : Err → Bool
  | .leaf _ xs => decide (xs.getD 0 0 = n)
  | .wrap _ pre x post => bif decide ((pre ++ post).getD 0 0 = n) then true else Err.any n x
  | _ => false
def Err.fit (L : List (Nat × Nat)) (W : List (Nat × Nat × Nat)) : Err → Bool
  | .nil => true
  | .leaf t xs => L.contains (t, xs.length)
  | .wrap t pre x post => W.contains (t, pre.length, post.length) && Err.fit L W x
  | .raw _ _ => false
end Go.Ab

/- Functions whose contracts are walked by hand: what a call comes to. -/
namespace Go.Ab
open Go Go.RowKit
set_option linter.unusedVariables false
set_option linter.unusedSimpArgs false
theorem npF_nil (raw : FuncId → Bool) (f : FuncId) : npF raw f [] = 0 := by unfold npF; split <;> rfl
theorem fn_pure {P : Program} {gl : Nat → Option S} {f : FuncId} {args : List S} {v : S} (enter : ∀ (as : Array Value) (w : World), (callFunc f as).run P w = .ok (.enter f as) w)
    (h : ∀ (E : Env) (w : World) (vs : List Value), E.gl = gl → FnIn E w args [] vs → Calls P f vs.toArray w fun en w' => ∃ rv, en = .returned rv ∧ w' = w ∧ RelV E (tbOf []) w v rv) : FnOk P gl f 0 args [] v [] := by
  refine ⟨enter, fun E w vs hgl hin => Calls.mono (h E w vs hgl hin) ?_⟩
  rintro en w' ⟨rv, rfl, rfl, hr⟩
  refine ⟨rv, E, rfl, hr, ?_, ?_, rfl, rfl, ?_, ?_, ⟨rfl, rfl, rfl, Nat.le_refl _, fun _ _ _ => rfl, fun _ _ h => h⟩, ?_⟩
  · intro k e he; simp at he
  · intro k j p q e f _ _ he; simp at he
  · intro k hk; omega
  · intro k hk; omega
  · intro k p e _ he; simp at he
theorem idx_eq : ∀ (l : List UInt8) (c : Int), 0 ≤ c → c ≤ 255 → Lib.indexByte l c.toNat.toUInt8 = idxB (l.map fun b => (b.toNat : Int)) c
  | [], c, h0, h1 => rfl
  | b :: l, c, h0, h1 => by
    have ih := idx_eq l c h0 h1
    have hge := Lib.indexByte_ge l c.toNat.toUInt8
    unfold Lib.indexByte
    simp only [List.map_cons, idxB]
    rw [← ih]
    have hb : (b == c.toNat.toUInt8) = decide ((b.toNat : Int) = c) := by
      have hbl := b.toNat_lt
      rw [Bool.eq_iff_iff, beq_iff_eq, decide_eq_true_eq]
      constructor
      · rintro rfl
        rw [UInt8.toNat_ofNat']
        omega
      · intro h
        have : b.toNat = c.toNat := by omega
        apply UInt8.toNat_inj.1
        rw [UInt8.toNat_ofNat', this]
        omega
    rw [hb]
    cases hd : decide ((b.toNat : Int) = c) with
    | true => simp
    | false =>
      simp only [Bool.false_eq_true, if_false, cond_false]
      by_cases hm : Lib.indexByte l c.toNat.toUInt8 = -1
      · rw [hm]; simp
      · have : ¬ Lib.indexByte l c.toNat.toUInt8 < 0 := by omega
        simp [hm, this]
structure Ext (w w' : World) : Prop where
  size : w.heap.size ≤ w'.heap.size
  block : ∀ b, b < w.heap.size → w'.heap[b]? = w.heap[b]?
  os : w'.os = w.os
  tape : w'.tape = w.tape
  output : w'.output = w.output
theorem Ext.refl (w : World) : Ext w w := ⟨Nat.le_refl _, fun _ _ => rfl, rfl, rfl, rfl⟩
theorem Ext.alloc {w w' : World} (h : Ext w w') (o : Obj) : Ext w (w'.alloc o) := by
  obtain ⟨h1, h2, h3, h4, h5⟩ := h
  refine ⟨?_, fun b hb => ?_, h3, h4, h5⟩
  · show _ ≤ (w'.heap.push o).size
    simp; omega
  · show (w'.heap.push o)[b]? = _
    rw [Array.getElem?_push, if_neg (by omega)]
    exact h2 b hb
theorem Ext.cell {w w' : World} (h : Ext w w') {b o : Nat} {v : Value} (hv : w.cell? ⟨b, o, none⟩ = some v) : w'.cell? ⟨b, o, none⟩ = some v := by
  rw [cell_same (h.block b (cell_lt hv))]; exact hv
structure Hid (p : Prop) : Prop where
  out : p
theorem Ext.set {w w' : World} (h : Ext w w') {b : Nat} (hb : b < w.heap.size) (v : Value) : Ext (w.setCell ⟨b, 0, none⟩ v) (w'.setCell ⟨b, 0, none⟩ v) := by
  obtain ⟨h1, h2, h3, h4, h5⟩ := h
  refine ⟨?_, fun c hc => ?_, h3, h4, h5⟩
  · unfold World.setCell; simpa using h1
  · have hc' : c < w.heap.size := by unfold World.setCell at hc; simpa using hc
    unfold World.setCell
    simp only [Array.getElem?_modify, h2 c hc']
theorem idxB_rng : ∀ (s : List Int) (c : Int), -1 ≤ idxB s c ∧ idxB s c < s.length
  | [], c => by simp [idxB]
  | x :: r, c => by
    have ih := idxB_rng r c
    simp only [idxB, List.length_cons]
    cases decide (x = c) with
    | true => simp only [cond_true]; omega
    | false =>
      simp only [cond_false]
      cases hd : decide (idxB r c < 0) with
      | true => simp only [cond_true]; omega
      | false => have := of_decide_eq_false hd; simp only [cond_false]; omega
end Go.Ab
