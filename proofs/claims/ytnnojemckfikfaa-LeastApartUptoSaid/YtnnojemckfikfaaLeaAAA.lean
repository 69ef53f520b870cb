/- LeastApart: its own text. -/
import Derived.Test.YtnnojemckfikfaaLeaATB
import Derived.Test.YtnnojemckfikfaaRawC
namespace Go.Ab.T
open Go Go.Ab Go.Proofs
set_option maxRecDepth 100000
set_option linter.unusedVariables false
noncomputable section
theorem opIs_of {ops : Array Oper} {i : Nat} {op : Op} {d : Option Tmp} (h : (ops[i]?).map (fun o => (o.op, o.dst, o.guard)) = some (op, d, none)) : OpIs ops i op d := by
  cases ho : ops[i]? with
  | none => rw [ho] at h; cases h
  | some o =>
    rw [ho] at h
    simp only [Option.map_some, Option.some.injEq, Prod.mk.injEq] at h
    exact ⟨o, ho, h.1, h.2.1, h.2.2⟩
theorem dis_of {ops : Array Oper} {i : Nat} {op : Op} {d : Option Tmp} {deps : List Nat} {g : Option (Nat × Bool)} (h : (ops[i]?).map (fun o => (o.op, o.dst, o.guard, (o.after.toList.all fun e => decide (e.on < i)), (deps.all fun j => o.after.toList.any fun e => decide (e.on = j) && Region.binds .any e))) = some (op, d, g, true, true)) : DIs ops i op d deps g := by
  cases ho : ops[i]? with
  | none => rw [ho] at h; cases h
  | some o =>
    rw [ho] at h
    simp only [Option.map_some, Option.some.injEq, Prod.mk.injEq] at h
    exact ⟨o, ho, h.1, h.2.1, h.2.2.1, h.2.2.2.1, h.2.2.2.2⟩
noncomputable def regOps (n : Nat) : Code → Option (Array Oper)
  | .region id ops _ => if id = n then some ops else none
  | .seq a b => match regOps n a with | some r => some r | none => regOps n b
  | .cond _ a b => match regOps n a with | some r => some r | none => regOps n b
  | .block _ a | .scope a | .loop a => regOps n a
  | _ => none
noncomputable def rO (n : Nat) : Array Oper := (regOps n (bodyOf Try.prog 6)).getD #[]
theorem apY : restC 5 (bodyOf Try.prog 6) = apCode rO := by kernel_rfl
theorem apO : ApO rO where
  r8 := ⟨by kernel_rfl, opIs_of (by kernel_rfl), opIs_of (by kernel_rfl), opIs_of (by kernel_rfl), opIs_of (by kernel_rfl)⟩
  r9 := ⟨by kernel_rfl, opIs_of (by kernel_rfl), opIs_of (by kernel_rfl), opIs_of (by kernel_rfl)⟩
  z10 := ⟨by kernel_rfl, opIs_of (by kernel_rfl)⟩
  h11 := ⟨by kernel_rfl, opIs_of (by kernel_rfl), opIs_of (by kernel_rfl), opIs_of (by kernel_rfl)⟩
  i12 := ⟨by kernel_rfl, opIs_of (by kernel_rfl), opIs_of (by kernel_rfl), opIs_of (by kernel_rfl)⟩
  r13 := ⟨by kernel_rfl, opIs_of (by kernel_rfl), opIs_of (by kernel_rfl), opIs_of (by kernel_rfl), opIs_of (by kernel_rfl), opIs_of (by kernel_rfl), opIs_of (by kernel_rfl)⟩
  z14 := ⟨by kernel_rfl, opIs_of (by kernel_rfl)⟩
  h15 := ⟨by kernel_rfl, opIs_of (by kernel_rfl), opIs_of (by kernel_rfl), opIs_of (by kernel_rfl)⟩
  i16 := ⟨by kernel_rfl, opIs_of (by kernel_rfl), opIs_of (by kernel_rfl), opIs_of (by kernel_rfl)⟩
  r17 := ⟨by kernel_rfl, dis_of (by kernel_rfl), dis_of (by kernel_rfl), dis_of (by kernel_rfl), dis_of (by kernel_rfl), dis_of (by kernel_rfl), dis_of (by kernel_rfl), dis_of (by kernel_rfl), dis_of (by kernel_rfl), dis_of (by kernel_rfl), dis_of (by kernel_rfl), dis_of (by kernel_rfl), dis_of (by kernel_rfl), dis_of (by kernel_rfl), dis_of (by kernel_rfl), dis_of (by kernel_rfl), dis_of (by kernel_rfl), dis_of (by kernel_rfl), dis_of (by kernel_rfl)⟩
  z18 := ⟨by kernel_rfl, opIs_of (by kernel_rfl)⟩
  h19 := ⟨by kernel_rfl, opIs_of (by kernel_rfl), opIs_of (by kernel_rfl), opIs_of (by kernel_rfl)⟩
  i20 := ⟨by kernel_rfl, opIs_of (by kernel_rfl), opIs_of (by kernel_rfl), opIs_of (by kernel_rfl)⟩
  z21 := ⟨by kernel_rfl, opIs_of (by kernel_rfl)⟩
  h22 := ⟨by kernel_rfl, opIs_of (by kernel_rfl), opIs_of (by kernel_rfl), opIs_of (by kernel_rfl)⟩
  i23 := ⟨by kernel_rfl, opIs_of (by kernel_rfl), opIs_of (by kernel_rfl), opIs_of (by kernel_rfl)⟩
  z24 := ⟨by kernel_rfl, opIs_of (by kernel_rfl)⟩
  h25 := ⟨by kernel_rfl, opIs_of (by kernel_rfl), opIs_of (by kernel_rfl), opIs_of (by kernel_rfl)⟩
  i26 := ⟨by kernel_rfl, opIs_of (by kernel_rfl), opIs_of (by kernel_rfl), opIs_of (by kernel_rfl)⟩
  z27 := ⟨by kernel_rfl, opIs_of (by kernel_rfl)⟩
  r28 := ⟨by kernel_rfl, opIs_of (by kernel_rfl), opIs_of (by kernel_rfl), opIs_of (by kernel_rfl), opIs_of (by kernel_rfl), opIs_of (by kernel_rfl), opIs_of (by kernel_rfl), opIs_of (by kernel_rfl), opIs_of (by kernel_rfl)⟩
  i29 := ⟨by kernel_rfl, opIs_of (by kernel_rfl), opIs_of (by kernel_rfl), opIs_of (by kernel_rfl)⟩
  r30 := ⟨by kernel_rfl, dis_of (by kernel_rfl), dis_of (by kernel_rfl), dis_of (by kernel_rfl), dis_of (by kernel_rfl), dis_of (by kernel_rfl), dis_of (by kernel_rfl), dis_of (by kernel_rfl), dis_of (by kernel_rfl), dis_of (by kernel_rfl), dis_of (by kernel_rfl), dis_of (by kernel_rfl), dis_of (by kernel_rfl), dis_of (by kernel_rfl), dis_of (by kernel_rfl), dis_of (by kernel_rfl), dis_of (by kernel_rfl), dis_of (by kernel_rfl), dis_of (by kernel_rfl), dis_of (by kernel_rfl), dis_of (by kernel_rfl), dis_of (by kernel_rfl), dis_of (by kernel_rfl), dis_of (by kernel_rfl), dis_of (by kernel_rfl), dis_of (by kernel_rfl), dis_of (by kernel_rfl), dis_of (by kernel_rfl), dis_of (by kernel_rfl), dis_of (by kernel_rfl), dis_of (by kernel_rfl), dis_of (by kernel_rfl), dis_of (by kernel_rfl), dis_of (by kernel_rfl), dis_of (by kernel_rfl), dis_of (by kernel_rfl), dis_of (by kernel_rfl), dis_of (by kernel_rfl)⟩
  z31 := ⟨by kernel_rfl, opIs_of (by kernel_rfl)⟩
  h32 := ⟨by kernel_rfl, opIs_of (by kernel_rfl), opIs_of (by kernel_rfl), opIs_of (by kernel_rfl)⟩
  i33 := ⟨by kernel_rfl, opIs_of (by kernel_rfl), opIs_of (by kernel_rfl), opIs_of (by kernel_rfl)⟩
  z34 := ⟨by kernel_rfl, opIs_of (by kernel_rfl)⟩
  h35 := ⟨by kernel_rfl, opIs_of (by kernel_rfl), opIs_of (by kernel_rfl), opIs_of (by kernel_rfl)⟩
  i36 := ⟨by kernel_rfl, opIs_of (by kernel_rfl), opIs_of (by kernel_rfl), opIs_of (by kernel_rfl)⟩
  r37 := ⟨by kernel_rfl, opIs_of (by kernel_rfl), opIs_of (by kernel_rfl), opIs_of (by kernel_rfl), opIs_of (by kernel_rfl), opIs_of (by kernel_rfl), opIs_of (by kernel_rfl), opIs_of (by kernel_rfl), opIs_of (by kernel_rfl), opIs_of (by kernel_rfl), opIs_of (by kernel_rfl), opIs_of (by kernel_rfl)⟩
  r38 := ⟨by kernel_rfl, opIs_of (by kernel_rfl)⟩
  r39 := ⟨by kernel_rfl, opIs_of (by kernel_rfl), opIs_of (by kernel_rfl), opIs_of (by kernel_rfl)⟩
noncomputable def dFs : Array Field := match Try.prog.underlying 28 with
  | some (.struct fs) => fs
  | _ => #[]
theorem some_of {α : Type} {x : Option α} (h : x.isSome = true) : ∃ y, x = some y := Option.isSome_iff_exists.1 h
theorem apT : ∃ f1 f2 iR iB zR zB, ApT Try.prog dFs f1 f2 iR iB zR zB := by
  obtain ⟨f1, hf1⟩ := some_of (x := dFs[1]?) (by kernel_rfl)
  obtain ⟨f2, hf2⟩ := some_of (x := dFs[2]?) (by kernel_rfl)
  obtain ⟨iR, zR, h1, h2, h3, h4, h5, h6, h7⟩ := elemC_spec (P := Try.prog) (t := 26) (e := .slice .bool) (by kernel_rfl)
  obtain ⟨iB, zB, k1, k2, k3, k4, k5, k6, k7⟩ := elemC_spec (P := Try.prog) (t := 4) (e := .bool) (by kernel_rfl)
  have hoff : (dFs[1]?).map (fun f => (f.offset, cellsT Try.prog f.type)) = some (256, some 1) := by kernel_rfl
  rw [hf1] at hoff
  simp only [Option.map_some, Option.some.injEq, Prod.mk.injEq] at hoff
  have hoff2 : (dFs[2]?).map (fun f => (f.offset, cellsT Try.prog f.type)) = some (257, some 1) := by kernel_rfl
  rw [hf2] at hoff2
  simp only [Option.map_some, Option.some.injEq, Prod.mk.injEq] at hoff2
  have hz : ((Try.prog.info? 26).bind fun i => i.zero.map fun z => z.cells) = some #[.slice none 0 0] := by kernel_rfl
  rw [h1] at hz
  simp only [Option.bind_some, h2, Option.map_some, Option.some.injEq] at hz
  have kz : ((Try.prog.info? 4).bind fun i => i.zero.map fun z => z.cells) = some #[.bool false] := by kernel_rfl
  rw [k1] at kz
  simp only [Option.bind_some, k2, Option.map_some, Option.some.injEq] at kz
  exact ⟨f1, f2, iR, iB, zR, zB, {
    hm := by kernel_rfl
    hD := by kernel_rfl
    h1 := hf1
    o1 := hoff.1
    c1 := hoff.2
    h2 := hf2
    o2 := hoff2.1
    c2 := hoff2.2
    u25 := by kernel_rfl
    u26 := by kernel_rfl
    u33 := by kernel_rfl
    u42 := by kernel_rfl
    u4 := by kernel_rfl
    c25 := by kernel_rfl
    c26 := by kernel_rfl
    c33 := by kernel_rfl
    c3 := by kernel_rfl
    c4 := by kernel_rfl
    a25 := by kernel_rfl
    a26 := by kernel_rfl
    a33 := by kernel_rfl
    a3 := by kernel_rfl
    a4 := by kernel_rfl
    nfR := h1
    nzR := h2
    zRc := hz
    zRs := h4
    zRb := h7
    nfB := k1
    nzB := k2
    zBc := kz
    zBs := k4
    zBb := k7 }⟩
theorem ap_nd : nodupB ((loopsOf (bodyOf Try.prog 6)).map firstRegion) = true := by kernel_rfl
end
end Go.Ab.T
