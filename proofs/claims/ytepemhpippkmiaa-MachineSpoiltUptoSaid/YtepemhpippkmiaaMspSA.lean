/- MachineSpoilt: its own text. -/
import Derived.Test.YtepemhpippkmiaaMspLA
import Derived.Test.YtepemhpippkmiaaRawB
namespace Go.Ab.T
open Go Go.Ab Go.Proofs
set_option maxRecDepth 100000
set_option linter.unusedVariables false
noncomputable section
noncomputable def rS (n : Nat) : Array Oper := (regOps n (bodyOf Try.prog 6)).getD #[]
theorem spY : restC 5 (bodyOf Try.prog 6) = .seq (spCode rS) (restC 6 (bodyOf Try.prog 6)) := by kernel_rfl
theorem spO : SpO rS where
  s7 := by kernel_rfl
  p70 := opIs_of (by kernel_rfl)
  p71 := opIs_of (by kernel_rfl)
  s9 := by kernel_rfl
  p90 := opIs_of (by kernel_rfl)
  p91 := opIs_of (by kernel_rfl)
  s11 := by kernel_rfl
  p110 := opIs_of (by kernel_rfl)
  p111 := opIs_of (by kernel_rfl)
  s13 := by kernel_rfl
  p130 := opIs_of (by kernel_rfl)
  p131 := opIs_of (by kernel_rfl)
  s12 := by kernel_rfl
  p120 := opIs_of (by kernel_rfl)
  p121 := opIs_of (by kernel_rfl)
  p122 := opIs_of (by kernel_rfl)
  p123 := opIs_of (by kernel_rfl)
  p124 := opIs_of (by kernel_rfl)
  p125 := opIs_of (by kernel_rfl)
  p126 := opIs_of (by kernel_rfl)
  p127 := opIs_of (by kernel_rfl)
  p128 := opIs_of (by kernel_rfl)
  s14 := by kernel_rfl
  p140 := opIs_of (by kernel_rfl)
  p141 := opIs_of (by kernel_rfl)
  p142 := opIs_of (by kernel_rfl)
  p143 := opIs_of (by kernel_rfl)
  p144 := opIs_of (by kernel_rfl)
  p145 := opIs_of (by kernel_rfl)
theorem spT : ∃ f1, SpT Try.prog dFs f1 := by
  obtain ⟨f1, hf1⟩ := some_of (x := dFs[1]?) (by kernel_rfl)
  have hoff : (dFs[1]?).map (fun f => (f.offset, cellsT Try.prog f.type)) = some (256, some 1) := by kernel_rfl
  rw [hf1] at hoff
  simp only [Option.map_some, Option.some.injEq, Prod.mk.injEq] at hoff
  exact ⟨f1, {
    hD := by kernel_rfl
    h1 := hf1
    o1 := hoff.1
    c1 := hoff.2
    u25 := by kernel_rfl
    u41 := by kernel_rfl
    c25 := by kernel_rfl
    c41 := by kernel_rfl
    c3 := by kernel_rfl
    a25 := by kernel_rfl
    a41 := by kernel_rfl }⟩
theorem sp_nd : nodupB ((loopsOf (bodyOf Try.prog 6)).map firstRegion) = true := by kernel_rfl
theorem sp_hl (n : Nat) : ∀ b ∈ loopsOf (restC n (bodyOf Try.prog 6)), loopBody Try.prog 6 (firstRegion b) = b := fun b hb => find_own sp_nd (live_sub n _ b hb)
theorem sp_glob : ∀ g, glob g = none := fun _ => rfl
end
end Go.Ab.T
