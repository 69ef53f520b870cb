/- Operations that only compute. -/
import Derived.Test.YtlhinijgdffcdaaGreatDoorOp2
namespace Go.Ab
open Go
set_option linter.unusedVariables false
set_option linter.unusedSimpArgs false
section
variable {E : Env} {w0 : World} {own0 : Nat → Bool → Prop} {st : St} {D : List Nat} {a : Act} {w : World} {C : Ctx} {o : Oper} {i : Nat} {r : OpR}
theorem RelV.isBool {tb : Tbl} {b : Bool} {v : Value} (h : RelV E tb w (.bool b) v) : v = .bool b := relV_bool.1 h
theorem opS_pick {c x y : Operand} (hR : RelSt E w0 own0 st D a.tmps w) (ho : o.op = .pick c x y) (h : opS C o st.ep i (evalS st.sl) st.tb = some r) :
  OpGood C.P E w0 own0 st D i o r.v r.ef a w := by
 have hd := opS_lt h
 have hc := hR.eval c
 have hx := hR.eval x
 have hy := hR.eval y
 unfold opS at h
 rw [ho] at h
 simp [hd] at h
 split at h <;> try contradiction
 ·rename_i he
  rw [he] at hc
  simp [ok] at h; subst h
  refine OpGood.value hR (u := a.eval x) ?_ hx (hR.evalKeys x)
  unfold execOp; rw [ho]; simp [RelV.isBool hc, asBool, Result.andThen]
 ·rename_i he
  rw [he] at hc
  simp [ok] at h; subst h
  refine OpGood.value hR (u := a.eval y) ?_ hy (hR.evalKeys y)
  unfold execOp; rw [ho]; simp [RelV.isBool hc, asBool, Result.andThen]
theorem opS_nilCheck {x : Operand} (hR : RelSt E w0 own0 st D a.tmps w) (ho : o.op = .nilCheck x) (h : opS C o st.ep i (evalS st.sl) st.tb = some r) :
  OpGood C.P E w0 own0 st D i o r.v r.ef a w := by
 have hd := opS_lt h
 have hx := hR.eval x
 have hk := hR.evalKeys x
 unfold opS at h
 rw [ho] at h
 simp [hd] at h
 have hrun : (∀ v, a.eval x = v → (match v with | .pointer none | .nilIface | .nilFunc => false | .func (.method _) _ _ => false | _ => true) = true →
   (execOp a.eval o).run C.P w = .ok (.value v) w) := by
  intro v hv hm
  unfold execOp; rw [ho]
  simp only [hv]
  split at hm <;> simp at hm
  ·rename_i h1 h2 h3 h4
   split <;> first | rfl | (exfalso; simp_all)
 cases hs : evalS st.sl x <;> rw [hs] at h hx hk <;> simp at h
 case ptr k p =>
  simp [ok] at h; subst h
  refine OpGood.value hR (u := a.eval x) (hrun _ rfl ?_) hx hk
  rw [relV_scalar rfl] at hx
  simp only [Rel] at hx
  split at hx
  ·obtain ⟨_, b, f, _, hv⟩ := hx
   rw [(List.cons.inj hv).1]
  ·obtain ⟨b, hv⟩ := hx
   rw [(List.cons.inj hv).1]
 case iref u y =>
  simp [ok] at h; subst h
  refine OpGood.value hR (u := a.eval x) (hrun _ rfl ?_) hx hk
  rw [relV_scalar rfl] at hx
  obtain ⟨b, f, ecs, hv, _⟩ := hx
  have hv := (List.cons.inj hv).1
  rw [hv]
 case gptr g p =>
  simp [ok] at h; subst h
  refine OpGood.value hR (u := a.eval x) (hrun _ rfl ?_) hx hk
  rw [relV_scalar rfl] at hx
  simp only [Rel] at hx
  split at hx
  ·obtain ⟨_, hv⟩ := hx
   have hv := (List.cons.inj hv).1
   rw [hv]
  ·obtain ⟨_, hv⟩ := hx
   have hv := (List.cons.inj hv).1
   rw [hv]
 case fn f c =>
  simp [ok] at h; subst h
  refine OpGood.value hR (u := a.eval x) (hrun _ rfl ?_) hx hk
  rw [relV_scalar rfl] at hx
  obtain ⟨vs, hv, _⟩ := hx
  have hv := (List.cons.inj hv).1
  rw [hv]
theorem opS_unOp {op : UnOp} {t : TypeId} {x : Operand} (hR : RelSt E w0 own0 st D a.tmps w) (ho : o.op = .unOp op t x) (h : opS C o st.ep i (evalS st.sl) st.tb = some r) :
  OpGood C.P E w0 own0 st D i o r.v r.ef a w := by
 have hd := opS_lt h
 have hx := hR.eval x
 unfold opS at h
 rw [ho] at h
 simp [hd] at h
 unfold unS at h
 split at h <;> try contradiction
 ·rename_i b hs
  rw [hs] at hx
  simp [ok] at h; subst h
  have hv := RelV.isBool hx
  refine OpGood.value hR (u := .bool (!b)) ?_ (relV_bool.2 rfl) (by simp [keysOf])
  unfold execOp; rw [ho]; simp [hv, Op.unary, Result.andThen]
 ·rename_i k n hs
  rw [hs] at hx
  simp [ok] at h; subst h
  obtain ⟨hv, hn⟩ := relV_int.1 hx
  refine OpGood.value hR (u := .int k (k.wrap (0 - n))) ?_ (by simpa using relV_int.2 ⟨rfl, inK_wrap k _⟩) (by simp [keysOf])
  unfold execOp; rw [ho]; simp [hv, Op.unary, Op.intArith, Result.andThen]
 ·rename_i k n hs
  rw [hs] at hx
  simp [ok] at h; subst h
  obtain ⟨hv, hn⟩ := relV_int.1 hx
  refine OpGood.value hR (u := .int k (k.wrap ((BitVec.ofInt k.bits (if k.signed then -1 else k.max) ^^^ BitVec.ofInt k.bits n).toNat : Int))) ?_ (relV_int.2 ⟨by simp only [bvop, wall_eq], by simp only [bvop, wall_eq]; exact inK_wrap k _⟩) (by simp [keysOf])
  unfold execOp; rw [ho]; simp [hv, Op.unary, Op.intBits, Result.andThen]
theorem opS_makeFunc {f : FuncId} {fst cap : Array Operand} (hR : RelSt E w0 own0 st D a.tmps w) (ho : o.op = .makeFunc (.func f) fst cap) (h : opS C o st.ep i (evalS st.sl) st.tb = some r) :
  OpGood C.P E w0 own0 st D i o r.v r.ef a w := by
 have hd := opS_lt h
 unfold opS at h
 rw [ho] at h
 simp [hd] at h
 obtain ⟨he, h⟩ := h
 simp [ok] at h; subst h
 have hl : ∀ l : List Operand, RelVL E st.tb w (l.map (evalS st.sl)) (l.map a.eval) ∧ ∀ k ∈ keysOfL (l.map (evalS st.sl)), Known st.ep D k := by
  intro l
  induction l with
  | nil => exact ⟨rfl, by simp [keysOfL]⟩
  | cons x l ih =>
   refine ⟨⟨_, _, rfl, hR.eval x, ih.1⟩, fun k hk => ?_⟩
   simp only [List.map_cons, keysOfL, List.mem_append] at hk
   rcases hk with hk | hk
   ·exact hR.evalKeys x k hk
   ·exact ih.2 k hk
 refine OpGood.value hR (u := .func (.func f) #[] (cap.map a.eval)) ?_ ?_ (by simpa [keysOf] using (hl cap.toList).2)
 ·unfold execOp; rw [ho]; simp [Instr.makeFunc, he, Result.andThen]
 ·rw [relV_scalar rfl]
  exact ⟨cap.toList.map a.eval, by rw [← Array.toList_map, Array.toArray_toList], (hl cap.toList).1⟩
end
end Go.Ab
