/- One operation: what the interpreter says of it is so. -/
import Derived.Test.YtlhinijgdffcdaaGreatDoorMono
import Derived.Laws.Strings
namespace Go.Ab
open Go
set_option linter.unusedVariables false
set_option linter.unusedSimpArgs false
theorem getD_set (l : List S) (d i : Nat) (s x : S) : (l.set d s).getD i x = if d = i ∧ i < l.length then s else l.getD i x := by
  simp only [List.getD_eq_getElem?_getD, List.getElem?_set]
  by_cases h : d = i
  · subst h
    by_cases h2 : d < l.length
    · simp [h2]
    · simp [h2]
  · simp [h]
theorem getD_setA (l : Array Value) (d i : Nat) (s x : Value) : (l.setIfInBounds d s).getD i x = if d = i ∧ i < l.size then s else l.getD i x := by
  simp only [Array.getD_eq_getD_getElem?, Array.getElem?_setIfInBounds]
  by_cases h : d = i
  · subst h
    by_cases h2 : d < l.size
    · simp [h2]
    · simp [h2]
  · simp [h]
theorem Known.cons {ep : Nat} {D : List Nat} {k : Nat} {i : Nat} (h : Known ep D k) : Known ep (i :: D) k :=
  h.imp id fun ⟨j, hj, e⟩ => ⟨j, List.mem_cons_of_mem _ hj, e⟩
section
variable {E : Env} {w0 : World} {own0 : Nat → Bool → Prop} {st : St} {D : List Nat} {a : Act} {w : World}
theorem RelSt.put (h : RelSt E w0 own0 st D a.tmps w) {s : S} {v : Value} (hv : RelV E st.tb w s v) (hk : ∀ k ∈ keysOf s, Known st.ep D k) (d : Option Tmp) (i : Nat) :
    RelSt E w0 own0 ⟨setDst st.sl d s, st.tb, st.ep, st.np⟩ (i :: D) (a.put d v).tmps w := by
  cases d with
  | none =>
    exact ⟨h.size, h.slot, h.ent, h.inj, h.hist, h.own, h.ownm, fun j k hj => (h.keyS j k hj).cons, fun k e he => (h.keyT k e he).cons, fun k e he j hj => (h.keyE k e he j hj).cons, h.glob, h.avlt⟩
  | some d =>
    refine ⟨by simp [setDst, Act.put, h.size], fun j => ?_, h.ent, h.inj, h.hist, h.own, h.ownm, fun j k hj => ?_, fun k e he => (h.keyT k e he).cons, fun k e he j hj => (h.keyE k e he j hj).cons, h.glob, h.avlt⟩
    · simp only [setDst, Act.put]
      rw [getD_set, getD_setA, h.size]
      split
      · exact hv
      · exact h.slot j
    · simp only [setDst] at hj
      rw [getD_set] at hj
      split at hj
      · exact (hk k hj).cons
      · exact (h.keyS j k hj).cons
theorem relV_scalar {E : Env} {tb : Tbl} {w : World} {s : S} {v : Value} (ha : s.isAgg = false) : RelV E tb w s v ↔ Rel E tb w s [v] := by
  simp [RelV, ha]
theorem relV_const (E : Env) (tb : Tbl) (w : World) (v : Value) : RelV E tb w (ofConst v) v := by
  unfold ofConst
  split
  · rename_i k n
    split
    · rename_i h; rw [relV_scalar rfl]; exact ⟨rfl, h⟩
    · rw [relV_scalar rfl]; exact ⟨_, rfl⟩
  · rw [relV_scalar rfl]; rfl
  · rename_i s
    split
    · rename_i h
      rw [relV_scalar rfl]
      refine ⟨s, rfl, rfl, ?_⟩
      have := of_decide_eq_true h
      unfold MAXL; omega
    · rw [relV_scalar rfl]; exact ⟨_, rfl⟩
  · rw [relV_scalar rfl]; exact ⟨none, rfl⟩
  · rw [relV_scalar rfl]; rfl
  · rw [relV_scalar rfl]; rfl
  · rw [relV_scalar rfl]; rfl
  · rw [relV_scalar rfl]; rfl
  · rw [relV_scalar rfl]; exact ⟨_, rfl⟩
theorem keys_const (v : Value) : keysOf (ofConst v) = [] := by
  unfold ofConst
  split <;> first | rfl | (split <;> rfl)
theorem RelSt.eval (h : RelSt E w0 own0 st D a.tmps w) (x : Operand) : RelV E st.tb w (evalS st.sl x) (a.eval x) := by
  cases x with
  | tmp t => exact h.slot t
  | const v => exact relV_const _ _ _ v
  | func f => rw [evalS, relV_scalar rfl]; exact ⟨[], rfl, rfl⟩
  | global g =>
    rw [evalS, relV_scalar rfl]
    simp only [Rel]
    split
    · exact ⟨trivial, rfl⟩
    · exact ⟨trivial, rfl⟩
theorem RelSt.evalKeys (h : RelSt E w0 own0 st D a.tmps w) (x : Operand) : ∀ k ∈ keysOf (evalS st.sl x), Known st.ep D k := by
  cases x with
  | tmp t => exact fun k hk => h.keyS t k hk
  | const v => rw [evalS, keys_const]; intro k hk; cases hk
  | func f => intro k hk; simp [evalS, keysOf, keysOfL] at hk
  | global g => intro k hk; simp [evalS, keysOf] at hk
def OpGood (P : Program) (E : Env) (w0 : World) (own0 : Nat → Bool → Prop) (st : St) (D : List Nat) (i : Nat) (o : Oper) (v : S) (ef : List (Nat × Option Ent)) (a : Act) (w : World) : Prop :=
  ∃ (u : Value) (w' : World) (E' : Env),
    ((execOp a.eval o).run P w = .ok (.value u) w' ∨ ((execOp a.eval o).run P w = .ok .skip w' ∧ u = undef)) ∧
    RelSt E' w0 own0 ⟨setDst st.sl o.dst v, st.tb.sets ef, st.ep, st.np⟩ (i :: D) (a.put o.dst u).tmps w' ∧ E'.av = E.av ∧ E'.gl = E.gl ∧ (∀ k, k / 64 ≠ st.ep * 4096 + i → E'.κ k = E.κ k) ∧
    ∀ k e', st.tb.sets ef k = some e' → k / 64 ≠ st.ep * 4096 + i → ∃ e, st.tb k = some e ∧ SameForm e e' ∧ (e.fz = true → e'.fz = true)
theorem OpGood.value {P : Program} {i : Nat} {o : Oper} {v : S} {u : Value} (h : RelSt E w0 own0 st D a.tmps w)
    (hr : (execOp a.eval o).run P w = .ok (.value u) w) (hv : RelV E st.tb w v u) (hk : ∀ k ∈ keysOf v, Known st.ep D k) :
    OpGood P E w0 own0 st D i o v [] a w :=
  ⟨u, w, E, .inl hr, h.put hv hk o.dst i, rfl, rfl, fun _ _ => rfl, fun k e' he _ => ⟨e', he, SameForm.refl, id⟩⟩
theorem relV_int {tb : Tbl} {k : IntKind} {n : Int} {v : Value} : RelV E tb w (.int k n) v ↔ v = .int k n ∧ inK k n = true := by
  rw [relV_scalar rfl]; simp [Rel]
theorem relV_bool {tb : Tbl} {b : Bool} {v : Value} : RelV E tb w (.bool b) v ↔ v = .bool b := by
  rw [relV_scalar rfl]; simp [Rel]
theorem inK_iff {k : IntKind} {n : Int} : inK k n = true ↔ k.min ≤ n ∧ n ≤ k.max := by simp [inK]
theorem inK_wrap (k : IntKind) (n : Int) : inK k (k.wrap n) = true := by
  rw [inK_iff]
  cases k <;> simp [IntKind.wrap, IntKind.min, IntKind.max, IntKind.signed, IntKind.bits] <;> omega
theorem inK_zero (k : IntKind) : k.min ≤ 0 ∧ 0 ≤ k.max := by cases k <;> decide
theorem inK_tmod {k : IntKind} {a b : Int} (ha : inK k a = true) : inK k (a.tmod b) = true := by
  rw [inK_iff] at *
  have hz := inK_zero k
  have hn : (a.tmod b).natAbs ≤ a.natAbs := by rw [Int.natAbs_tmod]; exact Nat.mod_le _ _
  rcases Int.le_total 0 a with h | h
  · have := Int.tmod_nonneg b h
    omega
  · have h2 := Int.tmod_nonneg b (a := -a) (by omega)
    rw [Int.neg_tmod] at h2
    omega
theorem inK_shr {k : IntKind} {a : Int} (ha : inK k a = true) (n : Nat) : inK k (a.fdiv (2 ^ n)) = true := by
  rw [inK_iff] at *
  have hz := inK_zero k
  have hp : (0 : Int) < 2 ^ n := Int.pow_pos (by decide)
  rw [Int.fdiv_eq_ediv_of_nonneg _ (Int.le_of_lt hp)]
  rcases Int.le_total 0 a with h | h
  · have h1 := Int.ediv_nonneg h (Int.le_of_lt hp)
    have h2 := Int.ediv_le_self (2 ^ n) h
    omega
  · have h1 : a ≤ a / 2 ^ n := by
      rw [Int.le_ediv_iff_mul_le hp]
      have := Int.mul_le_mul_of_nonpos_left (a := a) (b := 2 ^ n) (c := 1) h (by omega)
      omega
    have h2 : a / 2 ^ n ≤ 0 := by have := Int.ediv_le_ediv hp h; rwa [Int.zero_ediv] at this
    omega
def Scalar (E : Env) (tb : Tbl) (w : World) (P : Program) (m : Sem Value) (s : S) : Prop :=
  ∃ u, m.run P w = .ok u w ∧ RelV E tb w s u ∧ keysOf s = []
theorem scalar_int {tb : Tbl} {P : Program} {m : Sem Value} {k : IntKind} {n : Int} (h : m.run P w = .ok (.int k n) w) (hn : inK k n = true) : Scalar E tb w P m (.int k n) :=
  ⟨_, h, relV_int.2 ⟨rfl, hn⟩, rfl⟩
theorem scalar_bool {tb : Tbl} {P : Program} {m : Sem Value} {b : Bool} (h : m.run P w = .ok (.bool b) w) : Scalar E tb w P m (.bool b) :=
  ⟨_, h, relV_bool.2 rfl, rfl⟩
theorem binInt_sound {tb : Tbl} {P : Program} {op : BinOp} {xT : TypeId} {x y : Operand} {k k' : IntKind} {p q : Int} {r : OpR}
    (hp : inK k p = true) (hq : inK k' q = true) (h : binS op (.int k p) (.int k' q) = some r) (hg : ∀ g ∈ r.g, g = true) :
    Scalar E tb w P (do eqGuard op xT x y (.int k p) (.int k' q); binOp op xT (.int k p) (.int k' q)) r.v ∧ r.ef = [] := by
  have hbv : ∀ op, bvop k op p q = (match op with
      | .and => k.wrap ((BitVec.ofInt k.bits p &&& BitVec.ofInt k.bits q).toNat : Int)
      | .or => k.wrap ((BitVec.ofInt k.bits p ||| BitVec.ofInt k.bits q).toNat : Int)
      | .xor => k.wrap ((BitVec.ofInt k.bits p ^^^ BitVec.ofInt k.bits q).toNat : Int)
      | _ => k.wrap ((BitVec.ofInt k.bits p &&& ~~~ BitVec.ofInt k.bits q).toNat : Int)) := by
    intro op; unfold bvop; split <;> simp only [wall_eq]
  cases op <;> simp only [binS, ok, eqS, Option.bind] at h
  all_goals try (simp at h; done)
  case add => split at h <;> simp at h; subst h; rename_i hk; subst hk; exact ⟨scalar_int (by simp [eqGuard, binOp, Op.intArith, Sem.run, bind, pure, Sem.bind]) (inK_wrap _ _), rfl⟩
  case sub => split at h <;> simp at h; subst h; rename_i hk; subst hk; exact ⟨scalar_int (by simp [eqGuard, binOp, Op.intArith, Sem.run, bind, pure, Sem.bind]) (inK_wrap _ _), rfl⟩
  case mul => split at h <;> simp at h; subst h; rename_i hk; subst hk; exact ⟨scalar_int (by simp [eqGuard, binOp, Op.intArith, Sem.run, bind, pure, Sem.bind, mulZ, wall_eq]) (inK_wrap _ _), rfl⟩
  case and => split at h <;> simp at h; subst h; rename_i hk; subst hk; exact ⟨scalar_int (by simp [eqGuard, binOp, Op.intArith, Op.intDiv, Op.intBits, Op.intCmp, Op.shift, Sem.run, bind, pure, Sem.bind, hbv]) (by rw [hbv]; exact inK_wrap _ _), rfl⟩
  case or => split at h <;> simp at h; subst h; rename_i hk; subst hk; exact ⟨scalar_int (by simp [eqGuard, binOp, Op.intArith, Op.intDiv, Op.intBits, Op.intCmp, Op.shift, Sem.run, bind, pure, Sem.bind, hbv]) (by rw [hbv]; exact inK_wrap _ _), rfl⟩
  case xor => split at h <;> simp at h; subst h; rename_i hk; subst hk; exact ⟨scalar_int (by simp [eqGuard, binOp, Op.intArith, Op.intDiv, Op.intBits, Op.intCmp, Op.shift, Sem.run, bind, pure, Sem.bind, hbv]) (by rw [hbv]; exact inK_wrap _ _), rfl⟩
  case andNot => split at h <;> simp at h; subst h; rename_i hk; subst hk; exact ⟨scalar_int (by simp [eqGuard, binOp, Op.intArith, Op.intDiv, Op.intBits, Op.intCmp, Op.shift, Sem.run, bind, pure, Sem.bind, hbv]) (by rw [hbv]; exact inK_wrap _ _), rfl⟩
  case quo => split at h <;> simp at h; subst h; rename_i hk; subst hk; have hq0 : q ≠ 0 := (by simpa using hg); exact ⟨scalar_int (by simp [eqGuard, binOp, Op.intArith, Op.intDiv, Op.intBits, Op.intCmp, Op.shift, Sem.run, bind, pure, Sem.bind, hq0]) (inK_wrap _ _), rfl⟩
  case rem => split at h <;> simp at h; subst h; rename_i hk; subst hk; have hq0 : q ≠ 0 := (by simpa using hg); exact ⟨scalar_int (by simp [eqGuard, binOp, Op.intArith, Op.intDiv, Op.intBits, Op.intCmp, Op.shift, Sem.run, bind, pure, Sem.bind, hq0]) (inK_tmod hp), rfl⟩
  case shl => simp at h; subst h; have hq0 : ¬ q < 0 := by have := hg; simp at this; omega
              exact ⟨scalar_int (by simp [eqGuard, binOp, Op.intArith, Op.intDiv, Op.intBits, Op.intCmp, Op.shift, Sem.run, bind, pure, Sem.bind, hq0, Ab.shl, wall_eq]) (by rw [Ab.shl, wall_eq]; exact inK_wrap _ _), rfl⟩
  case shr => simp at h; subst h; have hq0 : ¬ q < 0 := by have := hg; simp at this; omega
              exact ⟨scalar_int (by simp [eqGuard, binOp, Op.intArith, Op.intDiv, Op.intBits, Op.intCmp, Op.shift, Sem.run, bind, pure, Sem.bind, hq0, Ab.shr, wall_eq]) (by rw [Ab.shr, wall_eq]; exact inK_shr hp _), rfl⟩
  case lss => split at h <;> simp at h; subst h; rename_i hk; subst hk; exact ⟨scalar_bool (by simp [eqGuard, binOp, Op.intArith, Op.intDiv, Op.intBits, Op.intCmp, Op.shift, Sem.run, bind, pure, Sem.bind]), rfl⟩
  case leq => split at h <;> simp at h; subst h; rename_i hk; subst hk; exact ⟨scalar_bool (by simp [eqGuard, binOp, Op.intArith, Op.intDiv, Op.intBits, Op.intCmp, Op.shift, Sem.run, bind, pure, Sem.bind]), rfl⟩
  case gtr => split at h <;> simp at h; subst h; rename_i hk; subst hk; exact ⟨scalar_bool (by simp [eqGuard, binOp, Op.intArith, Op.intDiv, Op.intBits, Op.intCmp, Op.shift, Sem.run, bind, pure, Sem.bind]), rfl⟩
  case geq => split at h <;> simp at h; subst h; rename_i hk; subst hk; exact ⟨scalar_bool (by simp [eqGuard, binOp, Op.intArith, Op.intDiv, Op.intBits, Op.intCmp, Op.shift, Sem.run, bind, pure, Sem.bind]), rfl⟩
  case eql =>
    by_cases hk : k = k'
    · subst hk; simp at h; subst h; exact ⟨scalar_bool (by simp [eqGuard, binOp, Op.intArith, Op.intDiv, Op.intBits, Op.intCmp, Op.shift, Sem.run, bind, pure, Sem.bind]; try rfl), rfl⟩
    · simp [hk] at h
  case neq =>
    by_cases hk : k = k'
    · subst hk; simp at h; subst h; exact ⟨scalar_bool (by simp [eqGuard, binOp, Op.intArith, Op.intDiv, Op.intBits, Op.intCmp, Op.shift, Sem.run, bind, pure, Sem.bind]; try rfl), rfl⟩
    · simp [hk] at h
theorem toNat_inj {l m : List UInt8} : (l.map fun b => (b.toNat : Int)) = (m.map fun b => (b.toNat : Int)) ↔ l = m := by
  constructor
  · intro h
    induction l generalizing m with
    | nil => cases m <;> simp_all
    | cons a r ih =>
      cases m with
      | nil => simp at h
      | cons b q =>
        simp only [List.map_cons, List.cons.injEq] at h
        have hab : a = b := UInt8.toNat_inj.1 (by omega)
        rw [ih h.2, hab]
  · rintro rfl; rfl
theorem bytesL_eq {a b : ByteArray} : bytesL a = bytesL b ↔ a.toList = b.toList := by
  rw [ByteArray.toList_eq, ByteArray.toList_eq]; exact toNat_inj
theorem ltL_bytes : ∀ (l m : List UInt8), ltL (l.map fun b => (b.toNat : Int)) (m.map fun b => (b.toNat : Int)) = Op.bytesLess l m
  | [], [] => rfl
  | _ :: _, [] => rfl
  | [], _ :: _ => rfl
  | a :: x, b :: y => by
    have h1 : (decide ((a.toNat : Int) < b.toNat)) = decide (a < b) := by
      rw [decide_eq_decide, UInt8.lt_iff_toNat_lt]; omega
    have h2 : (decide ((a.toNat : Int) = b.toNat)) = (a == b) := by
      rw [Bool.eq_iff_iff]; simp only [decide_eq_true_eq, beq_iff_eq, ← UInt8.toNat_inj]; omega
    simp only [List.map_cons, ltL, Op.bytesLess, h1, h2, ltL_bytes x y]
theorem ltL_bytesL (a b : ByteArray) : ltL (bytesL a) (bytesL b) = Op.bytesLess a.toList b.toList := by
  rw [ByteArray.toList_eq, ByteArray.toList_eq]; exact ltL_bytes _ _
theorem bytesLess_total : ∀ (l m : List UInt8), (Op.bytesLess l m || (l == m)) = !Op.bytesLess m l
  | [], [] => rfl
  | _ :: _, [] => rfl
  | [], _ :: _ => rfl
  | a :: x, b :: y => by
    have ih := bytesLess_total x y
    by_cases h : a = b
    · subst h
      simpa [Op.bytesLess, UInt8.lt_irrefl] using ih
    · have h2 : ¬ b = a := fun e => h e.symm
      have h3 : (decide (a < b)) = !decide (b < a) := by
        rw [Bool.eq_iff_iff]; simp only [Bool.not_eq_true', decide_eq_false_iff_not, decide_eq_true_eq, UInt8.lt_iff_toNat_lt]
        have : a.toNat ≠ b.toNat := fun e => h (UInt8.toNat_inj.1 e)
        omega
      have h4 : (a == b) = false := by simpa using h
      have h5 : (b == a) = false := by simpa using h2
      simp [Op.bytesLess, h3, h4, h5]
theorem bytesL_append (a b : ByteArray) : bytesL (a ++ b) = bytesL a ++ bytesL b := by
  simp [bytesL, ByteArray.data_append]
theorem bytesL_length (a : ByteArray) : (bytesL a).length = a.size := by rw [bytesL, List.length_map]; rfl
theorem relV_str {tb : Tbl} {s : List Int} {v : Value} : RelV E tb w (.str s) v ↔ ∃ bs : ByteArray, v = .string bs ∧ s = bytesL bs ∧ s.length ≤ MAXL := by
  rw [relV_scalar rfl]; simp [Rel, Rt]
theorem eq_bytes (a b : ByteArray) : (a.toList == b.toList) = decide (bytesL a = bytesL b) := by
  rw [Bool.eq_iff_iff, beq_iff_eq, decide_eq_true_eq, bytesL_eq]
theorem binStr_sound {tb : Tbl} {P : Program} {op : BinOp} {xT : TypeId} {x y : Operand} {a b : ByteArray} {r : OpR}
    (h : binS op (.str (bytesL a)) (.str (bytesL b)) = some r) (hg : ∀ g ∈ r.g, g = true) :
    Scalar E tb w P (do eqGuard op xT x y (.string a) (.string b); binOp op xT (.string a) (.string b)) r.v ∧ r.ef = [] := by
  cases op <;> simp only [binS, ok, eqS, Option.bind] at h
  all_goals try (simp at h; done)
  case add =>
    simp at h; subst h
    have hl : a.size + b.size < SMALL := by simpa [bytesL_length] using hg
    have hno : ¬ (((a.size + b.size : Nat) : Int) > IntKind.i64.max) := by
      unfold SMALL at hl; simp [IntKind.max, IntKind.signed, IntKind.bits]; omega
    refine ⟨⟨.string (a ++ b), ?_, relV_str.2 ⟨_, rfl, (bytesL_append a b).symm, ?_⟩, rfl⟩, rfl⟩
    · simp only [eqGuard, binOp, Op.stringOp, bind, pure, Sem.bind, Sem.run, hno, if_false]
      rfl
    · rw [← bytesL_append, bytesL_length, ByteArray.size_append]; unfold SMALL at hl; unfold MAXL; omega
  case lss => simp at h; subst h; exact ⟨scalar_bool (by simp [eqGuard, binOp, Op.stringOp, Sem.run, bind, pure, Sem.bind, ltL_bytesL]), rfl⟩
  case geq => simp at h; subst h; exact ⟨scalar_bool (by simp [eqGuard, binOp, Op.stringOp, Sem.run, bind, pure, Sem.bind, ltL_bytesL]), rfl⟩
  case eql => simp at h; subst h; exact ⟨scalar_bool (by simp only [eqGuard, binOp, Op.stringOp, Sem.run, bind, pure, Sem.bind, eq_bytes]; rfl), rfl⟩
  case neq => simp at h; subst h; exact ⟨scalar_bool (by simp [eqGuard, binOp, Op.stringOp, Sem.run, bind, pure, Sem.bind, eq_bytes]), rfl⟩
  case leq => simp at h; subst h; exact ⟨scalar_bool (by simp only [eqGuard, binOp, Op.stringOp, Sem.run, bind, pure, Sem.bind, ltL_bytesL, ← bytesLess_total]; rfl), rfl⟩
  case gtr =>
    simp at h; subst h
    refine ⟨scalar_bool ?_, rfl⟩
    have ht := bytesLess_total a.toList b.toList
    simp only [eqGuard, binOp, Op.stringOp, Sem.run, bind, pure, Sem.bind, ltL_bytesL, ht, Bool.not_not]
    rfl
end
end Go.Ab
