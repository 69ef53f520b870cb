/- What printed functions are tied with. -/
import Derived.Test.YtlhinijgdffcdaaGreatDoorFunc2
namespace Go.Ab
open Go
set_option linter.unusedVariables false
theorem no_some {α : Type} {r : α} {P : Prop} (h : (none : Option α) = some r) : P := nomatch h
theorem castL_self {e : Ty} (h : e = e) (xs : List e.den) : castL h xs = xs := rfl
theorem dite_some {α : Type} {p : Prop} {inst : Decidable p} {f : p → Option α} {r : α} (h : (if q : p then f q else none) = some r) : ∃ q : p, f q = some r := by
 by_cases q : p
 ·rw [dif_pos q] at h; exact ⟨q, h⟩
 ·rw [dif_neg q] at h; exact no_some h
section
variable {R : Type}
def ShOk (P : Program) (gl : Nat → Option S) (raw : FuncId → Bool) (f : FuncId) (sh : List S → List Ent → (S → List Ent → Option R) → Option R) : Prop :=
 ∀ av es K r, sh av es K = some r → ∃ v es', FnOk P gl f (npF raw f es) av es v es' ∧ K v es' = some r
def SlOk (C : Ctx) (f : FuncId) (m np id : Nat) (sl : List S → List Ent → (Out → List S → List Ent → Option R) → Option R) : Prop :=
 ∀ vs es K r, sl vs es K = some r →
  ∃ o vs' es', LoopDoes C.P C.glob (placeSt m np (C.live id) vs es) (loopBody C.P f id) o (placeSt m np (C.out id) vs' es') ∧ K o vs' es' = some r
def LfIn (C : Ctx) (f : FuncId) (m np : Nat) (g : Nat → List S → List Ent → (Out → List S → List Ent → Option R) → Option R) : Prop :=
 ∀ id, SlOk C f m np id (g id)
variable {P : Program} {gl : Nat → Option S} {raw : FuncId → Bool} {f : FuncId} {C : Ctx} {m np : Nat}
theorem cf_nil : CfOk P gl raw (fun (_ : FuncId) (_ : List S) (_ : List Ent) (_ : S → List Ent → Option R) => none) := fun _ _ _ _ _ h => no_some h
theorem cf_cons {n : FuncId} {sh : List S → List Ent → (S → List Ent → Option R) → Option R} {rest : CallF R} (h : ShOk P gl raw n sh) (k : CfOk P gl raw rest) :
  CfOk P gl raw (fun f av es K => iteH (decide (f = n)) (sh av es K) (rest f av es K)) := by
 intro f av es K r hh
 by_cases hf : f = n
 ·subst hf
  simp only [decide_true, iteH] at hh
  exact h _ _ _ _ hh
 ·simp only [hf, decide_false, iteH] at hh
  exact k _ _ _ _ _ hh
theorem lf_nil : LfIn C f m np (fun (_ : Nat) (_ : List S) (_ : List Ent) (_ : Out → List S → List Ent → Option R) => none) := fun _ _ _ _ _ h => no_some h
theorem lf_cons {n : Nat} {sl : List S → List Ent → (Out → List S → List Ent → Option R) → Option R} {rest : Nat → List S → List Ent → (Out → List S → List Ent → Option R) → Option R} (h : SlOk C f m np n sl) (k : LfIn C f m np rest) :
  LfIn C f m np (fun id vs es K => iteH (decide (id = n)) (sl vs es K) (rest id vs es K)) := by
 intro id vs es K r hh
 by_cases hf : id = n
 ·subst hf
  simp only [decide_true, iteH] at hh
  exact h _ _ _ _ hh
 ·simp only [hf, decide_false, iteH] at hh
  exact k _ _ _ _ _ hh
theorem lf_top {g : Nat → List S → List Ent → (Out → List S → List Ent → Option R) → Option R} (h : LfIn C f m np g) :
  LfOk C f (fun m' np' id _ vs es K => iteH (decide (m' = m) && decide (np' = np)) (g id vs es K) none) := by
 intro m' np' id vs es K r hh
 obtain ⟨h1, h2⟩ := iteH_some hh
 rw [Bool.and_eq_true, decide_eq_true_eq, decide_eq_true_eq] at h1
 obtain ⟨rfl, rfl⟩ := h1
 exact h _ _ _ _ _ h2
theorem lf_none : LfOk C f (fun (_ _ _ : Nat) (_ : Code) (_ : List S) (_ : List Ent) (_ : Out → List S → List Ent → Option R) => none) := fun _ _ _ _ _ _ _ h => no_some h
end
end Go.Ab
