/- A package-level variable that bears a type's handle, as a row lists it: what a law's contract asks of it. -/
import Derived.Test.YtlhinijgdffcdaaGreatDoorTop2
import Derived.LaidHandle
namespace Go.Ab
open Go Go.ChangeShapes
set_option linter.unusedVariables false
theorem glob_handle {P : Program} {W : World} {name : String} {nm : List UInt8} {u t g : Nat} {E : Env} {v : Value}
  (h : laidMetH P [(name, .iface "internal/reflectlite.rtype" (.agg [.ptr (.lit (.string nm))]))] W)
  (hu : (P.cutTypes.find? (·.1 == "internal/reflectlite.rtype")).map (·.2) = some u)
  (ht : ((List.range P.types.size).filter fun t => P.rowNamed t nm) = [t]) (hg : P.globalNamed name = some g) (hv : typeHandle P t = v) :
  g < W.heap.size ∧ ∃ cs, Lies W g 0 cs ∧ Rel E (tbOf []) W (.err (.raw u (.agg #[v]))) cs ∧ keysOf (.err (.raw u (.agg #[v]))) = [] := by
 have h' : laidMet P [] W ∧ handlesMet P [(name, .iface "internal/reflectlite.rtype" (.agg [.ptr (.lit (.string nm))]))] W := h
 obtain ⟨n, u', ty, h1, h2, h3, h4, h5⟩ := h'.2 _ (List.mem_singleton.2 rfl)
 cases h1
 rw [hu] at h2
 cases h2
 have hty : ty ∈ (List.range P.types.size).filter fun t => P.rowNamed t nm := List.mem_filter.2 ⟨List.mem_range.2 h3, h4⟩
 rw [ht, List.mem_singleton] at hty
 subst hty
 rw [hv] at h5
 simp only [World.var?, hg, Option.bind_some] at h5
 split at h5
 ·rename_i cs t f hc
  cases h5
  refine ⟨?_, _, ?_, rfl, rfl⟩
  ·exact (Array.getElem?_eq_some_iff.1 hc).1
  ·intro i v hi
   match i, hi with
   | 0, hi =>
    cases hi
    simp only [World.cell?, hc]
    rfl
 ·cases h5
end Go.Ab
