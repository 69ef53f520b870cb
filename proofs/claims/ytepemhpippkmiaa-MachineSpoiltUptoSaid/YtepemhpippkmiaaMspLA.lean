/- machine.Live: its own text. -/
import Derived.Test.YtepemhpippkmiaaMspTB
import Derived.Test.YtepemhpippkmiaaRaw7
namespace Go.Ab.T
open Go Go.Ab Go.Proofs
set_option maxRecDepth 100000
set_option linter.unusedVariables false
noncomputable section
theorem opIs_of {ops : Array Oper} {i : Nat} {op : Op} {d : Option Tmp} (h : (ops[i]?).map (fun o => (o.op, o.dst, o.guard)) = some (op, d, none)) : OpIs ops i op d := by
  cases ho : ops[i]? with
  | none => rw [ho] at h; cases h
  | some o =>
    rw [ho] at h
    simp only [Option.map_some, Option.some.injEq, Prod.mk.injEq] at h
    exact ⟨o, ho, h.1, h.2.1, h.2.2⟩
noncomputable def regOps (n : Nat) : Code → Option (Array Oper)
  | .region id ops _ => if id = n then some ops else none
  | .seq a b => match regOps n a with | some r => some r | none => regOps n b
  | .cond _ a b => match regOps n a with | some r => some r | none => regOps n b
  | .block _ a | .scope a | .loop a => regOps n a
  | _ => none
noncomputable def rO (n : Nat) : Array Oper := (regOps n (scC (restC 1 (bodyOf Try.prog 16)))).getD #[]
theorem liveY : restC 1 (scC (restC 1 (bodyOf Try.prog 16))) = .seq (.region 3 (rO 3) false) (.seq (.seq (.region 4 (rO 4) false) (.block 0 (.loop (.seq (.region 5 (rO 5) false) (.seq (.cond (.tmp 26) .skip (.exit 0)) (.seq (.block 1 (.seq (.region 6 (rO 6) false) (.seq (.region 7 (rO 7) false)
      (.block 2 (.loop (.seq (.region 8 (rO 8) false) (.seq (.cond (.tmp 33) .skip (.exit 2)) (.seq (.block 3 (.seq (.region 9 (rO 9) false) (.region 10 (rO 10) false))) (.region 11 (rO 11) false))))))))) (.region 12 (rO 12) false))))))) (restC 3 (scC (restC 1 (bodyOf Try.prog 16))))) := by kernel_rfl
theorem liveX : restC 1 (bodyOf Try.prog 16) = .scope (scC (restC 1 (bodyOf Try.prog 16))) := by kernel_rfl
theorem liveT : ∃ inf z, LvT Try.prog 25 41 3 #[41, 41] inf z := by
  obtain ⟨inf, z, h1, h2, h3, h4, h5, h6, h7⟩ := elemC_spec (P := Try.prog) (t := 3) (e := .int .i64) (by kernel_rfl)
  refine ⟨inf, z, by kernel_rfl, by kernel_rfl, by kernel_rfl, by kernel_rfl, by kernel_rfl, by kernel_rfl, by kernel_rfl, by kernel_rfl, h1, h2, ?_, h4, h6, h7⟩
  have := isZ_len h3
  simpa [Ty.size] using this
theorem liveO : LvO 25 41 3 #[41, 41] (rO 5) (rO 6) (rO 7) (rO 8) (rO 9) (rO 10) (rO 11) (rO 12) where
  s5 := by kernel_rfl
  p50 := opIs_of (by kernel_rfl)
  s6 := by kernel_rfl
  p60 := opIs_of (by kernel_rfl)
  p61 := opIs_of (by kernel_rfl)
  p62 := opIs_of (by kernel_rfl)
  p63 := opIs_of (by kernel_rfl)
  p64 := opIs_of (by kernel_rfl)
  s7 := by kernel_rfl
  p70 := opIs_of (by kernel_rfl)
  p71 := opIs_of (by kernel_rfl)
  p72 := opIs_of (by kernel_rfl)
  s8 := by kernel_rfl
  p80 := opIs_of (by kernel_rfl)
  s9 := by kernel_rfl
  p90 := opIs_of (by kernel_rfl)
  p91 := opIs_of (by kernel_rfl)
  p92 := opIs_of (by kernel_rfl)
  r10 := ⟨by kernel_rfl, opIs_of (by kernel_rfl), opIs_of (by kernel_rfl), opIs_of (by kernel_rfl), opIs_of (by kernel_rfl), opIs_of (by kernel_rfl), opIs_of (by kernel_rfl), opIs_of (by kernel_rfl), opIs_of (by kernel_rfl), opIs_of (by kernel_rfl), opIs_of (by kernel_rfl), opIs_of (by kernel_rfl)⟩
  s11 := by kernel_rfl
  p110 := opIs_of (by kernel_rfl)
  p111 := opIs_of (by kernel_rfl)
  s12 := by kernel_rfl
  p120 := opIs_of (by kernel_rfl)
  p121 := opIs_of (by kernel_rfl)
noncomputable def dFs : Array Field := match Try.prog.underlying 28 with
  | some (.struct fs) => fs
  | _ => #[]
theorem some_of {α : Type} {x : Option α} (h : x.isSome = true) : ∃ y, x = some y := Option.isSome_iff_exists.1 h
theorem liveP : ∃ f1 infI zI, LvP Try.prog 28 25 41 3 (rO 3) (rO 4) dFs f1 infI zI := by
  obtain ⟨f1, hf1⟩ := some_of (x := dFs[1]?) (by kernel_rfl)
  obtain ⟨infI, zI, h1, h2, h3, h4, h5, h6, h7⟩ := elemC_spec (P := Try.prog) (t := 41) (e := .slice (.int .i64)) (by kernel_rfl)
  have hoff : (dFs[1]?).map (fun f => (f.offset, cellsT Try.prog f.type)) = some (256, some 1) := by kernel_rfl
  rw [hf1] at hoff
  simp only [Option.map_some, Option.some.injEq, Prod.mk.injEq] at hoff
  have hz : ((Try.prog.info? 41).bind fun i => i.zero.map fun z => z.cells) = some #[.slice none 0 0] := by kernel_rfl
  rw [h1] at hz
  simp only [Option.bind_some, h2, Option.map_some, Option.some.injEq] at hz
  exact ⟨f1, infI, zI, {
    hD := by kernel_rfl
    hf := hf1
    off := hoff.1
    cf := hoff.2
    cO := by kernel_rfl
    aO := by kernel_rfl
    hinf := h1
    hzero := h2
    hzc := hz
    hsz := h4
    hb2 := h7
    s3 := by kernel_rfl
    p30 := opIs_of (by kernel_rfl)
    p31 := opIs_of (by kernel_rfl)
    p32 := opIs_of (by kernel_rfl)
    p33 := opIs_of (by kernel_rfl)
    p34 := opIs_of (by kernel_rfl)
    s4 := by kernel_rfl
    p40 := opIs_of (by kernel_rfl)
    p41 := opIs_of (by kernel_rfl)
    p42 := opIs_of (by kernel_rfl)
    p43 := opIs_of (by kernel_rfl) }⟩
theorem good_scope {R : Type} {C : Ctx} {c : Code} {st : St} {K : Out → St → Option R} {r : R} (h : Good C c st K r) : Good C (.scope c) st K r := by
  obtain ⟨o, st', h1, h2⟩ := h
  refine ⟨o, st', h1, fun hep hnp E w0 own0 a w hgl hR => wp_scope_straight ?_⟩
  refine Code.wp_mono' (h2 hep hnp E w0 own0 a w hgl hR) ?_
  rintro e a' w' ⟨rfl, hk⟩
  cases o <;> exact ⟨rfl, hk⟩
theorem live_nd : nodupB ((loopsOf (bodyOf Try.prog 16)).map firstRegion) = true := by kernel_rfl
theorem live_sub (n : Nat) : ∀ (c : Code) (b : Code), b ∈ loopsOf (restC n c) → b ∈ loopsOf c := by
  induction n with
  | zero => intro c b h; exact h
  | succ n ih =>
    intro c b h
    cases c with
    | seq x y => simp only [restC] at h; simp only [loopsOf, List.mem_append]; exact .inr (ih y b h)
    | _ => exact h
theorem live_hl (n : Nat) : ∀ b ∈ loopsOf (restC n (scC (restC 1 (bodyOf Try.prog 16)))), loopBody Try.prog 16 (firstRegion b) = b := fun b hb => by
  refine find_own live_nd ?_
  have h1 := live_sub n _ b hb
  have h2 : b ∈ loopsOf (restC 1 (bodyOf Try.prog 16)) := by rw [liveX]; exact h1
  exact live_sub 1 _ b h2
end
end Go.Ab.T
