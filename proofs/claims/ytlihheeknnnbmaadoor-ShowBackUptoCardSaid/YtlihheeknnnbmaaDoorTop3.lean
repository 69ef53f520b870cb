/- A package-level table that a row lists: what a law's contract asks of it. -/
import Derived.Test.YtlihheeknnnbmaaDoorTop2
import Derived.Lib.LaidTab
namespace Go.Ab
open Go Go.ChangeShapes
set_option linter.unusedVariables false

theorem flatten_sing {α : Type} : ∀ l : List α, (l.map fun a => [a]).flatten = l
  | [] => rfl
  | a :: r => by rw [List.map_cons, List.flatten_cons, flatten_sing r]; rfl

theorem glob_tab {P : Program} {W : World} {name : String} {k : IntKind} {zs : List Int} {g : Nat} {E : Env} (h : Lib.TabIs P W name k zs) (hg : P.globalNamed name = some g) (hne : 0 < zs.length) (hk : zs.all (inK k) = true) :
    g < W.heap.size ∧ ∃ cs, Lies W g 0 cs ∧ Rel E (tbOf []) W (.arr zs.length (.int k) zs) cs ∧ keysOf (.arr zs.length (.int k) zs) = [] := by
  have hc := fun i hi => h.cell hg i hi
  refine ⟨?_, zs.map fun z => Value.int k z, ?_, ?_, rfl⟩
  · have h0 := hc 0 hne
    apply Classical.byContradiction
    intro hn
    unfold World.cell? at h0
    have hn' : W.heap.size ≤ g := by omega
    simp [Array.getElem?_eq_none hn'] at h0
  · intro i v hv
    rw [List.getElem?_map, Option.map_eq_some_iff] at hv
    obtain ⟨z, hz, rfl⟩ := hv
    have hi : i < zs.length := by
      apply Classical.byContradiction
      intro hn
      rw [List.getElem?_eq_none (by omega)] at hz
      cases hz
    have := hc i hi
    rw [List.getD_eq_getElem?_getD, hz] at this
    rw [Nat.zero_add]
    exact this
  · simp only [Rel, Rt]
    refine ⟨trivial, (zs.map fun z => Value.int k z).map fun v => [v], (flatten_sing _).symm, by simp, fun i hi => ⟨[.int k zs[i]], by simp [hi], rfl, ?_⟩⟩
    exact List.all_eq_true.1 hk _ (List.getElem_mem hi)
end Go.Ab
