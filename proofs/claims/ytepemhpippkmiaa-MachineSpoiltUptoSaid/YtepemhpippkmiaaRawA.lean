/- RawA: a part of the proofs of this seat's statements. -/
import Derived.Test.YtepemhpippkmiaaNest
/- Single operations, as the machine does them. -/
namespace Go.Ab
open Go
set_option linter.unusedVariables false
set_option linter.unusedSimpArgs false

section
variable {P : Program} {w : World} {ev : Operand → Value} {o : Oper}

theorem ex_move {x : Operand} (ho : o.op = .move x) : (execOp ev o).run P w = .ok (.value (ev x)) w := by
  unfold execOp; rw [ho]; simp
theorem ex_assign {x : Operand} (ho : o.op = .assign x) : (execOp ev o).run P w = .ok (.value (ev x)) w := by
  unfold execOp; rw [ho]; simp
theorem ex_index {t et : TypeId} {x y : Operand} {b off m len cap n : Nat} (ho : o.op = .indexAddr t x y) (hu : P.underlying t = some (.slice et)) (hm : cellsT P et = some m) (hn : n < len) (hx : ev x = .slice (some ⟨b, off, none⟩) len cap) (hy : ev y = .int .i64 (n : Int)) :
    (execOp ev o).run P w = .ok (.value (.pointer (some ⟨b, off + n * m, none⟩))) w := by
  unfold execOp; rw [ho]
  simp [Instr.indexAt, run_underlying hu, hx, hy, asIntOf, Instr.sureAddr, run_sizeT hm, hn, addr_add]
theorem run_load1 {t : TypeId} {b off : Nat} {v : Value} (hs : cellsT P t = some 1) (ha : isAggT P t = false) (hc : w.cell? ⟨b, off, none⟩ = some v) : (loadVar t ⟨b, off, none⟩).run P w = .ok v w := by
  have hs' := hs
  unfold cellsT at hs'
  cases hu : P.underlying t with
  | none => simp [hu] at hs'
  | some d =>
    have hisagg : (isAgg t).run P w = .ok false w := by
      rw [← ha]
      unfold isAgg underlying isAggT
      simp only [hu, bind, Sem.bind, program, Sem.run, pure]
      cases d <;> rfl
    unfold loadVar
    simp only [Sem.run_bind, hisagg, Result.andThen]
    simp [load, Sem.run, hc]
theorem ex_append {tys : Array TypeId} {x y : Operand} {v' : Value} {w' : World} (ho : o.op = .call { callee := .builtin .append, args := #[x, y], argTypes := tys }) (hr : (Builtin.append_ tys o.type #[ev x, ev y]).run P w = .ok v' w') :
    (execOp ev o).run P w = .ok (.value v') w' := by
  unfold execOp; rw [ho]
  simp [resolve, invoke, builtin, hr]
theorem ex_load {t : TypeId} {x : Operand} {b off : Nat} {v : Value} (ho : o.op = .load t x) (hx : ev x = .pointer (some ⟨b, off, none⟩)) (hs : cellsT P t = some 1) (ha : isAggT P t = false) (hc : w.cell? ⟨b, off, none⟩ = some v) :
    (execOp ev o).run P w = .ok (.value v) w := by
  have hl := run_load1 (P := P) hs ha hc
  unfold execOp; rw [ho]
  simp only [Instr.loadAt, hx, Instr.sureAddr]
  simp only [Sem.run_bind, Sem.run_bind', Sem.run_pure, Result.andThen, hl]
/-- a slice of one number is built -/
theorem ex_build1 {t et : TypeId} {x : Operand} {n : Int} {inf : TypeInfo} {z : Value} (ho : o.op = .buildSlice t 1 #[(0, x)]) (hu : P.underlying t = some (.slice et)) (hinf : P.info? et = some inf) (hz : inf.zero = some z) (hzc : z.cells.size = 1) (hsz : inf.size = 1) (hx : ev x = .int .i64 n) :
    (execOp ev o).run P w = .ok (.value (.slice (some ⟨w.heap.size, 0, none⟩) 1 1)) (w.alloc (.cells #[.int .i64 n] et)) := by
  unfold execOp; rw [ho]
  simp only [Instr.buildSlice, Sem.run_bind, run_underlying hu, Result.andThen_ok, sizeOf, typeInfo, run_program, hinf, Sem.run_pure, hsz]
  rw [if_neg (by decide), if_neg (by decide)]
  simp only [zeroValue, typeInfo, Sem.run_bind, run_program, hinf, hz, Sem.run_pure, Result.andThen_ok, newRow, run_newObj]
  obtain ⟨c, hc⟩ : ∃ c, z.cells = #[c] := by
    have h1 : z.cells.toList.length = 1 := by simpa using hzc
    obtain ⟨c, hc⟩ := List.length_eq_one_iff.1 h1
    exact ⟨c, Array.ext' hc⟩
  have e1 : Instr.fill (fun i => some (i * 1, 1)) (Array.map (fun y => z.cells[y % z.cells.size]!) (Array.range (1 * 1))) (Array.map (fun q => (q.1, ev q.2)) #[(0, x)]).toList = some #[.int .i64 n] := by
    have e2 : (Array.map (fun q : Nat × Operand => (q.1, ev q.2)) #[(0, x)]).toList = [(0, Value.int .i64 n)] := by simp [hx]
    rw [e2, hc]
    have hcells : (Value.int .i64 n).cells = #[Value.int .i64 n] := rfl
    have hr : Array.range (1 * 1) = #[0] := by decide
    rw [hr]
    simp [Instr.fill, hcells]
  rw [e1]
  simp only [Sem.run_bind, run_newObj, Result.andThen_ok, Sem.run_pure]
  rfl
end
end Go.Ab

/- One round of `from[k] = append(from[k], s)`, as the machine does it. -/
namespace Go.Ab
open Go
set_option linter.unusedVariables false
set_option linter.unusedSimpArgs false

theorem put_size (a : Act) (d : Option Tmp) (u : Value) : (a.put d u).tmps.size = a.tmps.size := by
  cases d <;> simp [Act.put]
theorem eval_tmp (a : Act) (i : Nat) : a.eval (.tmp i) = a.tmps.getD i undef := rfl
theorem put_tmp (a : Act) {d : Nat} (i : Nat) (u : Value) (hd : d < a.tmps.size) : (a.put (some d) u).eval (.tmp i) = if i = d then u else a.eval (.tmp i) := by
  rw [eval_tmp, eval_tmp]
  simp only [Act.put]
  rw [getD_setA]
  by_cases h : i = d
  · subst h; rw [if_pos rfl, if_pos ⟨rfl, hd⟩]
  · rw [if_neg h, if_neg (fun q => h q.1.symm)]

/-- one operation of a region -/
def OpIs (ops : Array Oper) (i : Nat) (op : Op) (d : Option Tmp) : Prop := ∃ o, ops[i]? = some o ∧ o.op = op ∧ o.dst = d ∧ o.guard = none

theorem OpIs.val {P : Program} {ops : Array Oper} {Q : Exit → Act → World → Prop} {i : Nat} {rest : List Nat} {a : Act} {w w' : World} {op : Op} {d : Option Tmp} {u : Value} (h : OpIs ops i op d)
    (hr : ∀ o : Oper, o.op = op → (execOp a.eval o).run P w = .ok (.value u) w') (hk : wpOps P ops Q rest (a.put d u) w') : wpOps P ops Q (i :: rest) a w := by
  obtain ⟨o, h1, h2, h3, h4⟩ := h
  exact wpOps_val h1 h4 (hr o h2) (by rw [h3]; exact hk)
theorem OpIs.skip {P : Program} {ops : Array Oper} {Q : Exit → Act → World → Prop} {i : Nat} {rest : List Nat} {a : Act} {w w' : World} {op : Op} {d : Option Tmp} (h : OpIs ops i op d)
    (hr : ∀ o : Oper, o.op = op → (execOp a.eval o).run P w = .ok .skip w') (hk : wpOps P ops Q rest (a.put d undef) w') : wpOps P ops Q (i :: rest) a w := by
  obtain ⟨o, h1, h2, h3, h4⟩ := h
  exact wpOps_skip h1 h4 (hr o h2) (by rw [h3]; exact hk)
end Go.Ab

/- One round of `from[k] = append(from[k], s)`, as the machine does it. -/
namespace Go.Ab
open Go
set_option linter.unusedVariables false
set_option linter.unusedSimpArgs false

/-- what becomes of memory where one inner slice is appended to -/
structure Grew (w w' : World) (b n k : Nat) (bs bs' : Nat → Option Nat) : Prop where
  size : w.heap.size ≤ w'.heap.size
  os : w'.os = w.os
  tape : w'.tape = w.tape
  output : w'.output = w.output
  blk : ∀ c, c < w.heap.size → c ≠ b → bs k ≠ some c → w'.heap[c]? = w.heap[c]?
  cells : ∀ c o, (w.cell? ⟨c, o, none⟩).isSome → (w'.cell? ⟨c, o, none⟩).isSome
  ins : ∀ i c, i < n → bs' i = some c → bs i = some c ∨ w.heap.size ≤ c
  free : ∀ c o, (w.heap.size ≤ c ∨ c = b ∨ bs k = some c) → w'.heap[c]? = some o → Unfrozen o

theorem mem_step {P : Program} {w : World} {tys : Array TypeId} {ty eo : TypeId} {b n k : Nat} {xss : Nat → List Int} {bs : Nat → Option Nat} {s : Int} {inf : TypeInfo} {z : Value} {t et : TypeId}
    (ht : tys[0]? = some t) (hz : appOk P tys = true) (hu : P.underlying t = some (.slice et)) (hs : cellsT P et = some (Ty.size (.int .i64))) (hinf : P.info? et = some inf) (hzero : inf.zero = some z) (hzs : z.cells.size = 1) (hb1 : 0 < inf.bytes) (hb2 : inf.bytes ≤ 4096)
    (hN : Nst w b n eo et xss bs) (hk : k < n) (hm : (xss k).length + 1 < SMALL) :
    ∃ hd v v' w2, w.heap[b]? = some (.cells hd eo (0, 0)) ∧ hd[k]? = some v ∧ hd.size = n ∧
      (Builtin.append_ tys ty #[v, .slice (some ⟨w.heap.size, 0, none⟩) 1 1]).run P (w.alloc (.cells #[.int .i64 s] et)) = .ok v' w2 ∧ w2.heap[b]? = some (.cells hd eo (0, 0)) ∧ b < w2.heap.size ∧ v'.oneCell' = true ∧ v'.cells = #[v'] ∧
      ∀ hd' : Array Value, hd'.size = hd.size → hd'[k]? = some v' → (∀ i, i ≠ k → hd'[i]? = hd[i]?) → ∃ bs', Nst { w2 with heap := w2.heap.setIfInBounds b (.cells hd' eo (0, 0)) } b n eo et (fun i => if i = k then xss k ++ [s] else xss i) bs' ∧ Grew w { w2 with heap := w2.heap.setIfInBounds b (.cells hd' eo (0, 0)) } b n k bs bs' := by
  obtain ⟨hd, a1, a2, a3⟩ := hN.out
  obtain ⟨v, v1, v2⟩ := a3 k hk
  have hbw := heap_lt a1
  have e1 : ∀ c, c < w.heap.size → (w.alloc (.cells #[.int .i64 s] et)).heap[c]? = w.heap[c]? := fun c hc => push_lt hc
  have z1 : (w.alloc (.cells #[.int .i64 s] et)).heap.size = w.heap.size + 1 := by show (w.heap.push _).size = _; simp
  have hv1 : HdrAt (w.alloc (.cells #[.int .i64 s] et)) et v (xss k) (bs k) := v2.same fun c hc => e1 c (hN.other k c hk hc).2
  have hv2 : HdrAt (w.alloc (.cells #[.int .i64 s] et)) et (.slice (some ⟨w.heap.size, 0, none⟩) 1 1) [s] (some w.heap.size) :=
    .inr ⟨w.heap.size, 1, #[.int .i64 s], [], rfl, rfl, push_eq, by simp, by simp, by simp [ints]⟩
  obtain ⟨v', w2, bo, q1, q2, q3, q4, q5, q6, q7, q8, q9, q10, q11, q12⟩ := app_hdr (ty := ty) ht hz hu hs hinf hzero hzs hb1 hb2 hv1 hv2 hm
  have hkb : bs k ≠ some b := fun q => (hN.other k b hk q).1 rfl
  have hb2' : w2.heap[b]? = some (.cells hd eo (0, 0)) := by rw [q5 b (by omega) hkb, e1 b hbw]; exact a1
  have hsl : ∃ p m c, v' = .slice p m c := by
    rcases q2 with ⟨_, _, h⟩ | ⟨_, _, _, _, _, h, _⟩
    · exact ⟨_, _, _, h⟩
    · exact ⟨_, _, _, h⟩
  refine ⟨hd, v, v', w2, a1, v1, a2, q1, hb2', heap_lt hb2', by obtain ⟨p, m, c, rfl⟩ := hsl; rfl, by obtain ⟨p, m, c, rfl⟩ := hsl; rfl, fun hd' c1 c2 c3 => ?_⟩
  refine ⟨fun i => if i = k then bo else bs i, hN.put hk hbw q2 ?_ q7 (by omega) (fun c hc hne => by rw [q5 c (by omega) hne, e1 c hc]) hb2' rfl c1 c2 c3, ?_⟩
  · rcases q3 with h | h
    · exact .inl h
    · exact .inr ⟨_, h, by omega⟩
  · have hset : ∀ c, c ≠ b → ({ w2 with heap := w2.heap.setIfInBounds b (.cells hd' eo (0, 0)) } : World).heap[c]? = w2.heap[c]? := fun c hc => by
      show (w2.heap.setIfInBounds b _)[c]? = _
      rw [Array.getElem?_setIfInBounds_ne (fun q => hc q.symm)]
    refine ⟨by simp; omega, q8, q9, q10, fun c hc hcb hne => by rw [hset c hcb, q5 c (by omega) hne, e1 c hc], fun c o hc => ?_, fun i c hi hc => ?_, fun c o hc ho => ?_⟩
    · have h1 : ((w.alloc (.cells #[.int .i64 s] et)).cell? ⟨c, o, none⟩).isSome := by
        have hlt : c < w.heap.size := by
          cases hq : w.cell? ⟨c, o, none⟩ with
          | none => rw [hq] at hc; cases hc
          | some u => exact cell_lt hq
        rw [cell_same (e1 c hlt) o]; exact hc
      have h2 := q11 c o h1
      by_cases hcb : c = b
      · subst hcb; exact cell_some_set hb2' c1 o h2
      · rw [cell_same (hset c hcb) o]; exact h2
    · by_cases hik : i = k
      · rw [if_pos hik] at hc
        rcases q3 with h | h
        · left; rw [hik, ← h]; exact hc
        · right; rw [h] at hc; cases hc; omega
      · rw [if_neg hik] at hc; exact .inl hc
    · by_cases hcb : c = b
      · subst hcb
        have ho : (w2.heap.setIfInBounds c _)[c]? = some o := ho
        rw [Array.getElem?_setIfInBounds_self_of_lt (heap_lt hb2')] at ho
        cases ho
        exact unfrozen_cells (.inl rfl)
      · rw [hset c hcb] at ho
        rcases hc with hc | hc | hc
        · by_cases hcw : c = w.heap.size
          · subst hcw
            have hkk : bs k ≠ some w.heap.size := fun q => by have := (hN.other k _ hk q).2; omega
            rw [q5 _ (by omega) hkk] at ho
            exact unfrozen_push (w := w) (unfrozen_cells (.inl rfl)) rfl _ o (.inl (Nat.le_refl _)) ho
          · exact q12 c o (.inl (by omega)) ho
        · exact absurd hc hcb
        · exact q12 c o (.inr hc) ho
end Go.Ab

/- Region 10 of machine.Live. -/
namespace Go.Ab
open Go
set_option linter.unusedVariables false
set_option linter.unusedSimpArgs false

structure Puts (a : Act) (d : Nat) (u : Value) (a' : Act) : Prop where
  size : a'.tmps.size = a.tmps.size
  ev : ∀ i, a'.eval (.tmp i) = if i = d then u else a.eval (.tmp i)
  df : a'.defers = a.defers
theorem Puts.at {a a' : Act} {d : Nat} {u : Value} (h : Puts a d u a') : a'.eval (.tmp d) = u := by rw [h.ev, if_pos rfl]
theorem Puts.ne {a a' : Act} {d i : Nat} {u : Value} (h : Puts a d u a') (hi : i ≠ d) : a'.eval (.tmp i) = a.eval (.tmp i) := by rw [h.ev, if_neg hi]
theorem puts (a : Act) {d : Nat} (u : Value) (hd : d < a.tmps.size) : Puts a d u (a.put (some d) u) := ⟨put_size .., fun i => put_tmp a i u hd, rfl⟩

/-- `from[k] = append(from[k], s)` with from in slot f, k in slot kk, s in slot ss; slots from t on are its own -/
structure Reg10 (ops : Array Oper) (tO tI : TypeId) (tys : Array TypeId) (f kk ss t : Nat) : Prop where
  size : ops.size = 11
  o0 : OpIs ops 0 (.move (.tmp f)) (some t)
  o1 : OpIs ops 1 (.move (.tmp kk)) (some (t + 1))
  o2 : OpIs ops 2 (.move (.tmp f)) (some (t + 2))
  o3 : OpIs ops 3 (.move (.tmp kk)) (some (t + 3))
  o4 : OpIs ops 4 (.indexAddr tO (.tmp (t + 2)) (.tmp (t + 3))) (some (t + 4))
  o5 : OpIs ops 5 (.load tI (.tmp (t + 4))) (some (t + 5))
  o6 : OpIs ops 6 (.move (.tmp ss)) (some (t + 6))
  o7 : OpIs ops 7 (.buildSlice tI 1 #[(0, .tmp (t + 6))]) (some (t + 7))
  o8 : OpIs ops 8 (.call { callee := .builtin .append, args := #[.tmp (t + 5), .tmp (t + 7)], argTypes := tys }) (some (t + 8))
  o9 : OpIs ops 9 (.indexAddr tO (.tmp t) (.tmp (t + 1))) (some (t + 9))
  o10 : OpIs ops 10 (.store tI (.tmp (t + 9)) (.tmp (t + 8))) none

theorem reg10 {P : Program} {ops : Array Oper} {tO tI te : TypeId} {tys : Array TypeId} {f kk ss t : Nat} {inf : TypeInfo} {z : Value} (h : Reg10 ops tO tI tys f kk ss t) (ht : tys[0]? = some tI) (hz : appOk P tys = true)
    (hO : P.underlying tO = some (.slice tI)) (hI : P.underlying tI = some (.slice te)) (cI : cellsT P tI = some 1) (aI : isAggT P tI = false) (ce : cellsT P te = some (Ty.size (.int .i64)))
    (hinf : P.info? te = some inf) (hzero : inf.zero = some z) (hzs : z.cells.size = 1) (hsz1 : inf.size = 1) (hb1 : 0 < inf.bytes) (hb2 : inf.bytes ≤ 4096) (hf : f < t) (hkk : kk < t) (hss : ss < t)
    {a : Act} {w : World} {b n cap k : Nat} {xss : Nat → List Int} {bs : Nat → Option Nat} {s : Int} (hN : Nst w b n tI te xss bs) (hk : k < n) (hm : (xss k).length + 1 < SMALL) (hts : t + 10 ≤ a.tmps.size)
    (ef : a.eval (.tmp f) = .slice (some ⟨b, 0, none⟩) n cap) (ek : a.eval (.tmp kk) = .int .i64 (k : Int)) (es : a.eval (.tmp ss) = .int .i64 s) (Q : Exit → Act → World → Prop)
    (hQ : ∀ a' w' bs', (∀ i, i < t ∨ t + 10 ≤ i → a'.eval (.tmp i) = a.eval (.tmp i)) → a'.tmps.size = a.tmps.size → a'.defers = a.defers → Nst w' b n tI te (fun i => if i = k then xss k ++ [s] else xss i) bs' → Grew w w' b n k bs bs' → Q .normal a' w') (id : Nat) :
    (Code.region id ops false).wp P Q a w := by
  refine wp_region ?_
  rw [h.size]
  show wpOps P ops Q [0, 1, 2, 3, 4, 5, 6, 7, 8, 9, 10] a w
  obtain ⟨hd, v, v', w2, m1, m2, m3, m4, m5, m6, m7, m8, m9⟩ := mem_step (ty := tI) (s := s) ht hz hI ce hinf hzero hzs hb1 hb2 hN hk hm
  refine h.o0.val (fun o ho => ex_move ho) ?_
  have p0 := puts a (d := t) (a.eval (.tmp f)) (by omega)
  generalize a.put (some t) (a.eval (.tmp f)) = a0 at p0 ⊢
  refine h.o1.val (fun o ho => ex_move ho) ?_
  have p1 := puts a0 (d := t + 1) (a0.eval (.tmp kk)) (by rw [p0.size]; omega)
  generalize a0.put (some (t + 1)) (a0.eval (.tmp kk)) = a1 at p1 ⊢
  refine h.o2.val (fun o ho => ex_move ho) ?_
  have p2 := puts a1 (d := t + 2) (a1.eval (.tmp f)) (by rw [p1.size, p0.size]; omega)
  generalize a1.put (some (t + 2)) (a1.eval (.tmp f)) = a2 at p2 ⊢
  refine h.o3.val (fun o ho => ex_move ho) ?_
  have p3 := puts a2 (d := t + 3) (a2.eval (.tmp kk)) (by rw [p2.size, p1.size, p0.size]; omega)
  generalize a2.put (some (t + 3)) (a2.eval (.tmp kk)) = a3 at p3 ⊢
  have x0 : a3.eval (.tmp t) = .slice (some ⟨b, 0, none⟩) n cap := by
    rw [p3.ne (show t ≠ t + 3 by omega), p2.ne (show t ≠ t + 2 by omega), p1.ne (show t ≠ t + 1 by omega), p0.at, ef]
  have x1 : a3.eval (.tmp (t + 1)) = .int .i64 (k : Int) := by
    rw [p3.ne (show t + 1 ≠ t + 3 by omega), p2.ne (show t + 1 ≠ t + 2 by omega), p1.at, p0.ne (show kk ≠ t by omega), ek]
  have x2 : a3.eval (.tmp (t + 2)) = .slice (some ⟨b, 0, none⟩) n cap := by
    rw [p3.ne (show t + 2 ≠ t + 3 by omega), p2.at, p1.ne (show f ≠ t + 1 by omega), p0.ne (show f ≠ t by omega), ef]
  have x3 : a3.eval (.tmp (t + 3)) = .int .i64 (k : Int) := by
    rw [p3.at, p2.ne (show kk ≠ t + 2 by omega), p1.ne (show kk ≠ t + 1 by omega), p0.ne (show kk ≠ t by omega), ek]
  have x4 : a3.eval (.tmp ss) = .int .i64 s := by
    rw [p3.ne (show ss ≠ t + 3 by omega), p2.ne (show ss ≠ t + 2 by omega), p1.ne (show ss ≠ t + 1 by omega), p0.ne (show ss ≠ t by omega), es]
  have x5 : ∀ i, i < t ∨ t + 10 ≤ i → a3.eval (.tmp i) = a.eval (.tmp i) := fun i hi => by
    rw [p3.ne (show i ≠ t + 3 by omega), p2.ne (show i ≠ t + 2 by omega), p1.ne (show i ≠ t + 1 by omega), p0.ne (show i ≠ t by omega)]
  have z3 : a3.tmps.size = a.tmps.size := by rw [p3.size, p2.size, p1.size, p0.size]
  have d3 : a3.defers = a.defers := by rw [p3.df, p2.df, p1.df, p0.df]
  refine h.o4.val (fun o ho => ex_index ho hO cI hk x2 x3) ?_
  rw [show 0 + k * 1 = k by omega]
  have p4 := puts a3 (d := t + 4) (.pointer (some ⟨b, k, none⟩)) (by omega)
  generalize a3.put (some (t + 4)) (.pointer (some ⟨b, k, none⟩)) = a4 at p4 ⊢
  refine h.o5.val (fun o ho => ex_load (v := v) ho p4.at cI aI (by rw [cell_arr m1]; exact m2)) ?_
  have p5 := puts a4 (d := t + 5) v (by rw [p4.size]; omega)
  generalize a4.put (some (t + 5)) v = a5 at p5 ⊢
  refine h.o6.val (fun o ho => ex_move ho) ?_
  have y4 : a5.eval (.tmp ss) = .int .i64 s := by rw [p5.ne (show ss ≠ t + 5 by omega), p4.ne (show ss ≠ t + 4 by omega), x4]
  rw [y4]
  have p6 := puts a5 (d := t + 6) (.int .i64 s) (by rw [p5.size, p4.size]; omega)
  generalize a5.put (some (t + 6)) (.int .i64 s) = a6 at p6 ⊢
  refine h.o7.val (fun o ho => ex_build1 ho hI hinf hzero hzs hsz1 p6.at) ?_
  have p7 := puts a6 (d := t + 7) (.slice (some ⟨w.heap.size, 0, none⟩) 1 1) (by rw [p6.size, p5.size, p4.size]; omega)
  generalize a6.put (some (t + 7)) (.slice (some ⟨w.heap.size, 0, none⟩) 1 1) = a7 at p7 ⊢
  have y5 : a7.eval (.tmp (t + 5)) = v := by rw [p7.ne (show t + 5 ≠ t + 7 by omega), p6.ne (show t + 5 ≠ t + 6 by omega), p5.at]
  have y7 : a7.eval (.tmp (t + 7)) = .slice (some ⟨w.heap.size, 0, none⟩) 1 1 := p7.at
  refine h.o8.val (u := v') (w' := w2) (fun o ho => ex_append ho (by rw [y5, y7]; exact m4)) ?_
  have p8 := puts a7 (d := t + 8) v' (by rw [p7.size, p6.size, p5.size, p4.size]; omega)
  generalize a7.put (some (t + 8)) v' = a8 at p8 ⊢
  have u0 : a8.eval (.tmp t) = .slice (some ⟨b, 0, none⟩) n cap := by
    rw [p8.ne (show t ≠ t + 8 by omega), p7.ne (show t ≠ t + 7 by omega), p6.ne (show t ≠ t + 6 by omega), p5.ne (show t ≠ t + 5 by omega), p4.ne (show t ≠ t + 4 by omega), x0]
  have u1 : a8.eval (.tmp (t + 1)) = .int .i64 (k : Int) := by
    rw [p8.ne (show t + 1 ≠ t + 8 by omega), p7.ne (show t + 1 ≠ t + 7 by omega), p6.ne (show t + 1 ≠ t + 6 by omega), p5.ne (show t + 1 ≠ t + 5 by omega), p4.ne (show t + 1 ≠ t + 4 by omega), x1]
  refine h.o9.val (fun o ho => ex_index ho hO cI hk u0 u1) ?_
  rw [show 0 + k * 1 = k by omega]
  have p9 := puts a8 (d := t + 9) (.pointer (some ⟨b, k, none⟩)) (by rw [p8.size, p7.size, p6.size, p5.size, p4.size]; omega)
  generalize a8.put (some (t + 9)) (.pointer (some ⟨b, k, none⟩)) = a9 at p9 ⊢
  obtain ⟨cur', q1, q2⟩ := run_storeRow (P := P) (b := b) (el := tI) (fz := (0, 0)) k [v'] 0 hd w2 m5 (.inl rfl) (by simp; omega) (by intro u hu; rw [List.mem_singleton.1 hu]; exact m7)
  have u8 : a9.eval (.tmp (t + 8)) = v' := by rw [p9.ne (show t + 8 ≠ t + 9 by omega), p8.at]
  have hc1 : v'.cells.toList = [v'] := by rw [m8]
  have hc2 : v'.cells.size = 1 := by rw [m8]; rfl
  refine h.o10.skip (w' := { w2 with heap := w2.heap.setIfInBounds b (.cells cur' tI (0, 0)) }) (fun o ho => by
    unfold execOp; rw [ho]
    simp only [Instr.storeAt, p9.at, Instr.sureAddr, storeVar, Sem.run_bind, Sem.run_pure, Result.andThen_ok, run_sizeT cI, u8, hc2, ne_eq, not_true_eq_false, if_false, hc1, q1]) ?_
  obtain ⟨bs', n1, n2⟩ := m9 cur' (by have := q2.1; simpa using this) (by rw [← Array.getElem?_toList, q2.2.2, if_pos (by simp)]; simp) (fun i hi => by rw [← Array.getElem?_toList, q2.2.2, if_neg (by simp; omega), Array.getElem?_toList])
  refine hQ _ _ bs' (fun i hi => ?_) ?_ ?_ n1 n2
  · show a9.eval (.tmp i) = _
    rw [p9.ne (show i ≠ t + 9 by omega), p8.ne (show i ≠ t + 8 by omega), p7.ne (show i ≠ t + 7 by omega), p6.ne (show i ≠ t + 6 by omega), p5.ne (show i ≠ t + 5 by omega), p4.ne (show i ≠ t + 4 by omega), x5 i hi]
  · show a9.tmps.size = _
    rw [p9.size, p8.size, p7.size, p6.size, p5.size, p4.size, z3]
  · show a9.defers = _
    rw [p9.df, p8.df, p7.df, p6.df, p5.df, p4.df, d3]
end Go.Ab

/- Single operations, as the machine does them: places, lengths, numbers, new slices. -/
namespace Go.Ab
open Go
set_option linter.unusedVariables false
set_option linter.unusedSimpArgs false
section
variable {P : Program} {w : World} {ev : Operand → Value} {o : Oper}
theorem ex_field {t : TypeId} {x : Operand} {n b off m : Nat} {fs : Array Field} {f : Field} (ho : o.op = .fieldAddr t x n) (hu : P.underlying t = some (.struct fs)) (hf : fs[n]? = some f) (hm : cellsT P f.type = some (m + 1))
    (hx : ev x = .pointer (some ⟨b, off, none⟩)) : (execOp ev o).run P w = .ok (.value (.pointer (some ⟨b, off + f.offset, none⟩))) w := by
  unfold execOp; rw [ho]
  simp [Instr.fieldAt, run_underlying hu, hf, hx, Instr.sureAddr, fieldPlace, run_sizeT hm, addr_add]
theorem ex_len {tys : Array TypeId} {x : Operand} {e : TypeId} {a : Option Addr} {n c : Nat} (ho : o.op = .call { callee := .builtin .len, args := #[x], argTypes := tys }) (h0 : (tys[0]?).bind P.underlying = some (.slice e)) (hx : ev x = .slice a n c) :
    (execOp ev o).run P w = .ok (.value (.int .i64 (n : Int))) w := by
  have := run_len (P := P) (w := w) (ty := o.type) (v := .slice a n c) (n := (n : Int)) h0 rfl
  unfold execOp; rw [ho]
  simp [resolve, invoke, builtin, hx, this]
theorem ex_lss {t k : TypeId} {x y : Operand} {p q : Int} (ho : o.op = .binOp .lss t x y k) (hx : ev x = .int .i64 p) (hy : ev y = .int .i64 q) : (execOp ev o).run P w = .ok (.value (.bool (decide (p < q)))) w := by
  unfold execOp; rw [ho]
  simp [hx, hy, eqGuard, binOp, Op.intArith, Op.intDiv, Op.intBits, Op.intCmp, Op.shift, Sem.run, bind, pure, Sem.bind]
theorem ex_add {t k : TypeId} {x y : Operand} {p q : Int} (ho : o.op = .binOp .add t x y k) (hx : ev x = .int .i64 p) (hy : ev y = .int .i64 q) : (execOp ev o).run P w = .ok (.value (.int .i64 (IntKind.i64.wrap (p + q)))) w := by
  unfold execOp; rw [ho]
  simp [hx, hy, eqGuard, binOp, Op.intArith, Sem.run, bind, pure, Sem.bind]
theorem ex_make {t et : TypeId} {x : Operand} {n : Nat} {inf : TypeInfo} {z : Value} (ho : o.op = .makeSlice t x x) (hu : P.underlying t = some (.slice et)) (hinf : P.info? et = some inf) (hz : inf.zero = some z) (hx : ev x = .int .i64 (n : Int))
    (hb : (inf.bytes : Int) * n ≤ 281474976710656) (hn : (n : Int) < 17179869184) : (execOp ev o).run P w = .ok (.value (.slice (some ⟨w.heap.size, 0, none⟩) n n)) (w.alloc (.cells (madeCells z.cells (n * inf.size)) et)) := by
  have hrun := run_make (P := P) w t et inf z hu hinf hz .i64 .i64 n n (by omega) (by omega) hb (by omega)
  unfold execOp; rw [ho]
  simp [hx, hrun]
end
end Go.Ab

/- machine.Live: the lists of who leads where, as the machine builds them. -/
namespace Go.Ab
open Go
set_option linter.unusedVariables false
set_option linter.unusedSimpArgs false

def pushRow (X : Nat → List Int) (s : Int) : List Int → Nat → List Int
  | [] => X
  | k :: r => pushRow (fun i => if i = k.toNat then X k.toNat ++ [s] else X i) s r
def pushRows (X : Nat → List Int) (s : Nat) : List (List Int) → Nat → List Int
  | [] => X
  | l :: r => pushRows (pushRow X s l) (s + 1) r
theorem pushRow_snoc (s k : Int) : ∀ (l : List Int) (X : Nat → List Int), pushRow X s (l ++ [k]) = fun i => if i = k.toNat then pushRow X s l k.toNat ++ [s] else pushRow X s l i
  | [], X => rfl
  | x :: r, X => pushRow_snoc s k r _
theorem pushRows_snoc (l : List Int) : ∀ (r : List (List Int)) (s : Nat) (X : Nat → List Int), pushRows X s (r ++ [l]) = pushRow (pushRows X s r) ((s + r.length : Nat) : Int) l
  | [], s, X => rfl
  | x :: r, s, X => by
    show pushRows (pushRow X s x) (s + 1) (r ++ [l]) = _
    rw [pushRows_snoc l r (s + 1)]
    show pushRow (pushRows (pushRow X s x) (s + 1) r) _ l = pushRow (pushRows (pushRow X s x) (s + 1) r) _ l
    rw [show s + 1 + r.length = s + (x :: r).length by simp; omega]
theorem pushRow_len (s : Int) : ∀ (l : List Int) (X : Nat → List Int) (i : Nat), (pushRow X s l i).length ≤ (X i).length + l.length
  | [], X, i => by simp [pushRow]
  | k :: r, X, i => by
    refine Nat.le_trans (pushRow_len s r _ i) ?_
    by_cases h : i = k.toNat
    · subst h; simp; omega
    · simp [h]
theorem pushRows_len : ∀ (r : List (List Int)) (s : Nat) (X : Nat → List Int) (i : Nat), (pushRows X s r i).length ≤ (X i).length + r.flatten.length
  | [], s, X, i => by simp [pushRows]
  | l :: r, s, X, i => by
    refine Nat.le_trans (pushRows_len r (s + 1) _ i) ?_
    have := pushRow_len s l X i
    rw [List.flatten_cons, List.length_append]
    omega

/-- rows of numbers, as they lie -/
def RowsAt (w : World) (br ob : Nat) (rows : List (List Int)) : Prop :=
  ∀ i (h : i < rows.length), ∃ a cap, w.cell? ⟨br, ob + i, none⟩ = some (.slice a rows[i].length cap) ∧ ∀ j (hj : j < rows[i].length), ∃ bi oi, a = some ⟨bi, oi, none⟩ ∧ w.cell? ⟨bi, oi + j, none⟩ = some (.int .i64 rows[i][j])

/-- the types that Live's text names -/
structure LvT (P : Program) (tO tI ti : TypeId) (tys : Array TypeId) (inf : TypeInfo) (z : Value) : Prop where
  ht : tys[0]? = some tI
  hz : appOk P tys = true
  hO : P.underlying tO = some (.slice tI)
  hI : P.underlying tI = some (.slice ti)
  cI : cellsT P tI = some 1
  aI : isAggT P tI = false
  ci : cellsT P ti = some 1
  ai : isAggT P ti = false
  hinf : P.info? ti = some inf
  hzero : inf.zero = some z
  hzs : z.cells.size = 1
  hsz : inf.size = 1
  hb1 : 0 < inf.bytes
  hb2 : inf.bytes ≤ 4096
/-- the text of its two loops -/
structure LvO (tO tI ti : TypeId) (tys : Array TypeId) (o5 o6 o7 o8 o9 o10 o11 o12 : Array Oper) : Prop where
  s5 : o5.size = 1
  p50 : OpIs o5 0 (.binOp .lss ti (.tmp 25) (.tmp 24) ti) (some 26)
  s6 : o6.size = 5
  p60 : OpIs o6 0 (.move (.tmp 25)) (some 27)
  p61 : OpIs o6 1 (.indexAddr tO (.tmp 23) (.tmp 25)) (some 28)
  p62 : OpIs o6 2 (.load tI (.tmp 28)) (some 29)
  p63 : OpIs o6 3 (.assign (.tmp 27)) (some 4)
  p64 : OpIs o6 4 (.assign (.tmp 29)) (some 5)
  s7 : o7.size = 3
  p70 : OpIs o7 0 (.move (.tmp 5)) (some 30)
  p71 : OpIs o7 1 (.call { callee := .builtin .len, args := #[.tmp 30], argTypes := #[tI] }) (some 31)
  p72 : OpIs o7 2 (.move (.const (.int .i64 0))) (some 32)
  s8 : o8.size = 1
  p80 : OpIs o8 0 (.binOp .lss ti (.tmp 32) (.tmp 31) ti) (some 33)
  s9 : o9.size = 3
  p90 : OpIs o9 0 (.indexAddr tI (.tmp 30) (.tmp 32)) (some 34)
  p91 : OpIs o9 1 (.load ti (.tmp 34)) (some 35)
  p92 : OpIs o9 2 (.assign (.tmp 35)) (some 7)
  r10 : Reg10 o10 tO tI tys 3 7 4 36
  s11 : o11.size = 2
  p110 : OpIs o11 0 (.binOp .add ti (.tmp 32) (.const (.int .i64 1)) ti) (some 46)
  p111 : OpIs o11 1 (.move (.tmp 46)) (some 32)
  s12 : o12.size = 2
  p120 : OpIs o12 0 (.binOp .add ti (.tmp 25) (.const (.int .i64 1)) ti) (some 47)
  p121 : OpIs o12 1 (.move (.tmp 47)) (some 25)

/-- what stays, and what has been built -/
structure LvI (w0 : World) (b n : Nat) (tI ti : TypeId) (a0 : Act) (X : Nat → List Int) (a : Act) (w : World) : Prop where
  N : ∃ bs, Nst w b n tI ti X bs ∧ ∀ i c, i < n → bs i = some c → w0.heap.size ≤ c
  bnew : w0.heap.size ≤ b
  size : w0.heap.size ≤ w.heap.size
  old : ∀ c, c < w0.heap.size → w.heap[c]? = w0.heap[c]?
  os : w.os = w0.os
  tape : w.tape = w0.tape
  output : w.output = w0.output
  tsz : a.tmps.size = a0.tmps.size
  df : a.defers = a0.defers
  ev : ∀ i : Nat, i < 4 ∨ i = 23 ∨ i = 24 → a.eval (.tmp i) = a0.eval (.tmp i)
  free : ∀ c o, w0.heap.size ≤ c → w.heap[c]? = some o → Unfrozen o
theorem LvI.put {w0 : World} {b n : Nat} {tI ti : TypeId} {a0 : Act} {X : Nat → List Int} {a a' : Act} {w : World} (h : LvI w0 b n tI ti a0 X a w) {d : Nat} {u : Value} (hp : Puts a d u a') (hd : 4 ≤ d ∧ d ≠ 23 ∧ d ≠ 24) : LvI w0 b n tI ti a0 X a' w :=
  ⟨h.N, h.bnew, h.size, h.old, h.os, h.tape, h.output, hp.size.trans h.tsz, hp.df.trans h.df, fun i hi => by rw [hp.ne (i := i) (by omega)]; exact h.ev i hi, h.free⟩

theorem ev_const (a : Act) (v : Value) : a.eval (.const v) = v := rfl

section
variable {P : Program} {tO tI ti : TypeId} {tys : Array TypeId} {inf : TypeInfo} {z : Value} {o5 o6 o7 o8 o9 o10 o11 o12 : Array Oper}
variable {w0 : World} {b n br ob capR capF : Nat} {a0 : Act} {rows : List (List Int)}

theorem wi64 (n : Nat) (h : n < 4611686018427387904) : IntKind.i64.wrap ((n : Int) + 1) = ((n + 1 : Nat) : Int) := by rw [IntKind.wrap_i64]; omega

/-- the inner loop: one row -/
theorem lv_inner (T : LvT P tO tI ti tys inf z) (O : LvO tO tI ti tys o5 o6 o7 o8 o9 o10 o11 o12) (hR : RowsAt w0 br ob rows) (hz0 : 50 ≤ a0.tmps.size) (h3 : a0.eval (.tmp 3) = .slice (some ⟨b, 0, none⟩) n capF)
    {i : Nat} (hi : i < rows.length) (hin : ∀ k ∈ rows[i], 0 ≤ k ∧ k < (n : Int)) (hlen : rows[i].length ≤ 4000000000000000000) {X : Nat → List Int} (hX : ∀ k, (X k).length + rows[i].length + 1 < SMALL) {a : Act} {w : World} (h : LvI w0 b n tI ti a0 X a w)
    {ar : Option Addr} {cr : Nat} (e4 : a.eval (.tmp 4) = .int .i64 (i : Int)) (e25 : a.eval (.tmp 25) = .int .i64 (i : Int)) (e30 : a.eval (.tmp 30) = .slice ar rows[i].length cr) (e31 : a.eval (.tmp 31) = .int .i64 (rows[i].length : Int)) (e32 : a.eval (.tmp 32) = .int .i64 0)
    (har : ∀ j (hj : j < rows[i].length), ∃ bi oi, ar = some ⟨bi, oi, none⟩ ∧ w0.cell? ⟨bi, oi + j, none⟩ = some (.int .i64 rows[i][j])) (Q : Exit → Act → World → Prop)
    (hQ : ∀ a' w', LvI w0 b n tI ti a0 (pushRow X (i : Int) rows[i]) a' w' → a'.eval (.tmp 25) = .int .i64 (i : Int) → Q .normal a' w') :
    (Code.block 2 (.loop (.seq (.region 8 o8 false) (.seq (.cond (.tmp 33) .skip (.exit 2)) (.seq (.block 3 (.seq (.region 9 o9 false) (.region 10 o10 false))) (.region 11 o11 false)))))).wp P Q a w := by
  refine wp_block (wp_loop (fun a w => ∃ j, j ≤ rows[i].length ∧ LvI w0 b n tI ti a0 (pushRow X (i : Int) (rows[i].take j)) a w ∧ a.eval (.tmp 4) = .int .i64 (i : Int) ∧ a.eval (.tmp 25) = .int .i64 (i : Int) ∧ a.eval (.tmp 30) = .slice ar rows[i].length cr ∧ a.eval (.tmp 31) = .int .i64 (rows[i].length : Int) ∧ a.eval (.tmp 32) = .int .i64 (j : Int))
    (fun a w => match a.eval (.tmp 32) with | .int _ v => ((rows[i].length : Int) - v).toNat | _ => 0) ⟨0, Nat.zero_le _, h, e4, e25, e30, e31, e32⟩ ?_)
  clear h e4 e25 e30 e31 e32
  rintro a w ⟨j, hj, h, e4, e25, e30, e31, e32⟩
  have hsz := h.tsz
  refine wp_seq (wp_region ?_)
  rw [O.s8]
  show wpOps P o8 _ [0] a w
  refine O.p80.val (fun o ho => ex_lss ho e32 e31) ?_
  have p0 := puts a (d := 33) (.bool (decide ((j : Int) < (rows[i].length : Int)))) (by omega)
  generalize a.put (some 33) (.bool (decide ((j : Int) < (rows[i].length : Int)))) = a1 at p0 ⊢
  have h1 := h.put p0 (by omega)
  show Code.wp _ _ _ a1 w
  refine wp_seq ?_
  by_cases hjl : j < rows[i].length
  · -- one more
    rw [decide_eq_true (by omega : (j : Int) < (rows[i].length : Int))] at p0
    refine wp_cond_true p0.at (wp_skip ?_)
    show Code.wp _ _ _ a1 w
    refine wp_seq (wp_block (wp_seq (wp_region ?_)))
    rw [O.s9]
    show wpOps P o9 _ [0, 1, 2] a1 w
    obtain ⟨bi, oi, q1, q2⟩ := har j hjl
    have e30' : a1.eval (.tmp 30) = .slice (some ⟨bi, oi, none⟩) rows[i].length cr := by rw [p0.ne (by omega), e30, q1]
    have e32' : a1.eval (.tmp 32) = .int .i64 (j : Int) := by rw [p0.ne (by omega), e32]
    have hcell : w.cell? ⟨bi, oi + j * 1, none⟩ = some (.int .i64 rows[i][j]) := by
      rw [Nat.mul_one, cell_same (h.old _ (cell_lt q2))]; exact q2
    refine O.p90.val (fun o ho => ex_index ho T.hI T.ci hjl e30' e32') ?_
    have p1 := puts a1 (d := 34) (.pointer (some ⟨bi, oi + j * 1, none⟩)) (by rw [p0.size]; omega)
    generalize a1.put (some 34) (.pointer (some ⟨bi, oi + j * 1, none⟩)) = a2 at p1 ⊢
    refine O.p91.val (fun o ho => ex_load ho p1.at T.ci T.ai hcell) ?_
    have p2 := puts a2 (d := 35) (.int .i64 rows[i][j]) (by rw [p1.size, p0.size]; omega)
    generalize a2.put (some 35) (.int .i64 rows[i][j]) = a3 at p2 ⊢
    refine O.p92.val (fun o ho => ex_assign ho) ?_
    rw [p2.at]
    have p3 := puts a3 (d := 7) (.int .i64 rows[i][j]) (by rw [p2.size, p1.size, p0.size]; omega)
    generalize a3.put (some 7) (.int .i64 rows[i][j]) = a4 at p3 ⊢
    have h4 := ((h1.put p1 (by omega)).put p2 (by omega)).put p3 (by omega)
    have z4 : a4.tmps.size = a0.tmps.size := h4.tsz
    have k4 : ∀ i : Nat, i ≠ 33 → i ≠ 34 → i ≠ 35 → i ≠ 7 → a4.eval (.tmp i) = a.eval (.tmp i) := fun i q0 q1 q2 q3 => by rw [p3.ne q3, p2.ne q2, p1.ne q1, p0.ne q0]
    have hin' := hin _ (List.getElem_mem hjl)
    obtain ⟨kn, hkn⟩ := Int.eq_ofNat_of_zero_le hin'.1
    show Code.wp _ _ _ a4 w
    obtain ⟨bs, hN, hbs⟩ := h4.N
    have hkn' : kn < n := by omega
    have hlenX : (pushRow X (i : Int) (rows[i].take j) kn).length + 1 < SMALL := by
      have := pushRow_len (i : Int) (rows[i].take j) X kn
      have := hX kn
      rw [List.length_take] at *
      omega
    have g3 : a4.eval (.tmp 3) = .slice (some ⟨b, 0, none⟩) n capF := by rw [h4.ev 3 (by omega)]; exact h3
    have g7 : a4.eval (.tmp 7) = .int .i64 (kn : Int) := by rw [p3.at, hkn]
    have g4 : a4.eval (.tmp 4) = .int .i64 (i : Int) := by rw [k4 4 (by omega) (by omega) (by omega) (by omega)]; exact e4
    have c1 : (3 : Nat) < 36 := by omega
    have c2 : (7 : Nat) < 36 := by omega
    have c3 : (4 : Nat) < 36 := by omega
    have c4 : 36 + 10 ≤ a4.tmps.size := by omega
    refine reg10 O.r10 T.ht T.hz T.hO T.hI T.cI T.aI T.ci T.hinf T.hzero T.hzs T.hsz T.hb1 T.hb2 c1 c2 c3 hN hkn' hlenX c4 g3 g7 g4 _ (fun a5 w5 bs5 f1 f2 f3 f4 f5 => ?_) 10
    show Code.wp _ _ _ a5 w5
    have hXs : (fun i' => if i' = kn then pushRow X (i : Int) (rows[i].take j) kn ++ [(i : Int)] else pushRow X (i : Int) (rows[i].take j) i') = pushRow X (i : Int) (rows[i].take (j + 1)) := by
      rw [List.take_succ_eq_append_getElem hjl, pushRow_snoc, hkn]; rfl
    rw [hXs] at f4
    have h5 : LvI w0 b n tI ti a0 (pushRow X (i : Int) (rows[i].take (j + 1))) a5 w5 := by
      refine ⟨⟨bs5, f4, fun i' c hi' hc => ?_⟩, h4.bnew, Nat.le_trans h4.size f5.size, fun c hc => ?_, f5.os.trans h4.os, f5.tape.trans h4.tape, f5.output.trans h4.output, f2.trans h4.tsz, f3.trans h4.df, fun i' hi' => ?_, fun c o hc ho => ?_⟩
      · rcases f5.ins i' c hi' hc with q | q
        · exact hbs i' c hi' q
        · exact Nat.le_trans h4.size q
      · rw [f5.blk c (Nat.lt_of_lt_of_le hc h4.size) (by have := h4.bnew; omega) (fun q => by have := hbs kn c hkn' q; omega)]
        exact h4.old c hc
      · rw [f1 i' (by omega)]; exact h4.ev i' hi'
      · by_cases hcc : w.heap.size ≤ c ∨ c = b ∨ bs kn = some c
        · exact f5.free c o hcc ho
        · rw [f5.blk c (by omega) (fun q => hcc (.inr (.inl q))) (fun q => hcc (.inr (.inr q)))] at ho
          exact h4.free c o hc ho
    have z5 := h5.tsz
    refine wp_region ?_
    rw [O.s11]
    show wpOps P o11 _ [0, 1] a5 w5
    have g32 : a5.eval (.tmp 32) = .int .i64 (j : Int) := by rw [f1 32 (by omega), k4 32 (by omega) (by omega) (by omega) (by omega)]; exact e32
    refine O.p110.val (fun o ho => ex_add ho g32 (ev_const a5 _)) ?_
    rw [wi64 j (by omega)]
    have p6 := puts a5 (d := 46) (.int .i64 ((j + 1 : Nat) : Int)) (by omega)
    generalize a5.put (some 46) (.int .i64 ((j + 1 : Nat) : Int)) = a6 at p6 ⊢
    refine O.p111.val (fun o ho => ex_move ho) ?_
    rw [p6.at]
    have p7 := puts a6 (d := 32) (.int .i64 ((j + 1 : Nat) : Int)) (by rw [p6.size]; omega)
    generalize a6.put (some 32) (.int .i64 ((j + 1 : Nat) : Int)) = a7 at p7 ⊢
    have h7 := (h5.put p6 (by omega)).put p7 (by omega)
    have k7 : ∀ i' : Nat, i' ≠ 33 → i' ≠ 34 → i' ≠ 35 → i' ≠ 7 → i' ≠ 46 → i' ≠ 32 → (i' < 36 ∨ 46 ≤ i') → a7.eval (.tmp i') = a.eval (.tmp i') := fun i' q0 q1 q2 q3 q4 q5 q6 => by rw [p7.ne q5, p6.ne q4, f1 i' (by omega), k4 i' q0 q1 q2 q3]
    show (∃ j, _) ∧ _
    refine ⟨⟨j + 1, hjl, h7, ?_, ?_, ?_, ?_, p7.at⟩, ?_⟩
    · rw [k7 4 (by omega) (by omega) (by omega) (by omega) (by omega) (by omega) (by omega)]; exact e4
    · rw [k7 25 (by omega) (by omega) (by omega) (by omega) (by omega) (by omega) (by omega)]; exact e25
    · rw [k7 30 (by omega) (by omega) (by omega) (by omega) (by omega) (by omega) (by omega)]; exact e30
    · rw [k7 31 (by omega) (by omega) (by omega) (by omega) (by omega) (by omega) (by omega)]; exact e31
    · rw [p7.at, e32]
      show ((rows[i].length : Int) - ((j + 1 : Nat) : Int)).toNat < ((rows[i].length : Int) - (j : Int)).toNat
      omega
  · -- the row's end
    rw [decide_eq_false (by omega : ¬ (j : Int) < (rows[i].length : Int))] at p0
    refine wp_cond_false p0.at (wp_exit ?_)
    have hj' : j = rows[i].length := by omega
    subst hj'
    rw [List.take_length] at h1
    exact hQ _ _ h1 (by rw [p0.ne (by omega)]; exact e25)

/-- the outer loop: all rows -/
theorem lv_outer (T : LvT P tO tI ti tys inf z) (O : LvO tO tI ti tys o5 o6 o7 o8 o9 o10 o11 o12) (hR : RowsAt w0 br ob rows) (hz0 : 50 ≤ a0.tmps.size) (h3 : a0.eval (.tmp 3) = .slice (some ⟨b, 0, none⟩) n capF)
    (hn : n = rows.length) (hnl : n ≤ 4000000000000000000) (h24 : a0.eval (.tmp 24) = .int .i64 (n : Int)) (h23 : rows ≠ [] → a0.eval (.tmp 23) = .slice (some ⟨br, ob, none⟩) n capR)
    (hin : ∀ l ∈ rows, ∀ k ∈ l, 0 ≤ k ∧ k < (n : Int)) (htot : rows.flatten.length + 1 < SMALL) {a : Act} {w : World} (h : LvI w0 b n tI ti a0 (fun _ => []) a w) (e25 : a.eval (.tmp 25) = .int .i64 0) (Q : Exit → Act → World → Prop)
    (hQ : ∀ a' w', LvI w0 b n tI ti a0 (pushRows (fun _ => []) 0 rows) a' w' → Q .normal a' w') :
    (Code.block 0 (.loop (.seq (.region 5 o5 false) (.seq (.cond (.tmp 26) .skip (.exit 0)) (.seq (.block 1 (.seq (.region 6 o6 false) (.seq (.region 7 o7 false)
      (.block 2 (.loop (.seq (.region 8 o8 false) (.seq (.cond (.tmp 33) .skip (.exit 2)) (.seq (.block 3 (.seq (.region 9 o9 false) (.region 10 o10 false))) (.region 11 o11 false))))))))) (.region 12 o12 false)))))).wp P Q a w := by
  have hflat : ∀ i (hi : i < rows.length), (rows.take i).flatten.length + rows[i].length ≤ rows.flatten.length := fun i hi => by
    have : rows.flatten = (rows.take i).flatten ++ (rows[i] ++ (rows.drop (i + 1)).flatten) := by
      rw [← List.flatten_cons, ← List.drop_eq_getElem_cons hi, ← List.flatten_append, List.take_append_drop]
    rw [this, List.length_append, List.length_append]; omega
  have hS : SMALL = 17179869184 := rfl
  refine wp_block (wp_loop (fun a w => ∃ i, i ≤ n ∧ LvI w0 b n tI ti a0 (pushRows (fun _ => []) 0 (rows.take i)) a w ∧ a.eval (.tmp 25) = .int .i64 (i : Int))
    (fun a w => match a.eval (.tmp 25) with | .int _ v => ((n : Int) - v).toNat | _ => 0) ⟨0, Nat.zero_le _, h, e25⟩ ?_)
  clear h e25
  rintro a w ⟨i, hi, h, e25⟩
  have hsz := h.tsz
  refine wp_seq (wp_region ?_)
  rw [O.s5]
  show wpOps P o5 _ [0] a w
  refine O.p50.val (fun o ho => ex_lss ho e25 (by rw [h.ev 24 (by omega)]; exact h24)) ?_
  have p0 := puts a (d := 26) (.bool (decide ((i : Int) < (n : Int)))) (by omega)
  generalize a.put (some 26) (.bool (decide ((i : Int) < (n : Int)))) = a1 at p0 ⊢
  have h1 := h.put p0 (by omega)
  show Code.wp _ _ _ a1 w
  refine wp_seq ?_
  by_cases hil : i < n
  · rw [decide_eq_true (by omega : (i : Int) < (n : Int))] at p0
    refine wp_cond_true p0.at (wp_skip ?_)
    show Code.wp _ _ _ a1 w
    refine wp_seq (wp_block (wp_seq (wp_region ?_)))
    rw [O.s6]
    show wpOps P o6 _ [0, 1, 2, 3, 4] a1 w
    have hil' : i < rows.length := by omega
    have hne : rows ≠ [] := fun q => by rw [q] at hil'; simp at hil'
    obtain ⟨ar, cr, c1, c2⟩ := hR i hil'
    have g25 : a1.eval (.tmp 25) = .int .i64 (i : Int) := by rw [p0.ne (by omega)]; exact e25
    have g23 : a1.eval (.tmp 23) = .slice (some ⟨br, ob, none⟩) n capR := by rw [h1.ev 23 (by omega)]; exact h23 hne
    have hcell : w.cell? ⟨br, ob + i * 1, none⟩ = some (.slice ar rows[i].length cr) := by
      rw [Nat.mul_one, cell_same (h.old _ (cell_lt c1))]; exact c1
    refine O.p60.val (fun o ho => ex_move ho) ?_
    rw [g25]
    have p1 := puts a1 (d := 27) (.int .i64 (i : Int)) (by rw [p0.size]; omega)
    generalize a1.put (some 27) (.int .i64 (i : Int)) = a2 at p1 ⊢
    have g25' : a2.eval (.tmp 25) = .int .i64 (i : Int) := by rw [p1.ne (by omega)]; exact g25
    have g23' : a2.eval (.tmp 23) = .slice (some ⟨br, ob, none⟩) n capR := by rw [p1.ne (by omega)]; exact g23
    refine O.p61.val (fun o ho => ex_index ho T.hO T.cI hil g23' g25') ?_
    have p2 := puts a2 (d := 28) (.pointer (some ⟨br, ob + i * 1, none⟩)) (by rw [p1.size, p0.size]; omega)
    generalize a2.put (some 28) (.pointer (some ⟨br, ob + i * 1, none⟩)) = a3 at p2 ⊢
    refine O.p62.val (fun o ho => ex_load ho p2.at T.cI T.aI hcell) ?_
    have p3 := puts a3 (d := 29) (.slice ar rows[i].length cr) (by rw [p2.size, p1.size, p0.size]; omega)
    generalize a3.put (some 29) (.slice ar rows[i].length cr) = a4 at p3 ⊢
    have g27 : a4.eval (.tmp 27) = .int .i64 (i : Int) := by rw [p3.ne (by omega), p2.ne (by omega)]; exact p1.at
    refine O.p63.val (fun o ho => ex_assign ho) ?_
    rw [g27]
    have p4 := puts a4 (d := 4) (.int .i64 (i : Int)) (by rw [p3.size, p2.size, p1.size, p0.size]; omega)
    generalize a4.put (some 4) (.int .i64 (i : Int)) = a5 at p4 ⊢
    have g29 : a5.eval (.tmp 29) = .slice ar rows[i].length cr := by rw [p4.ne (by omega)]; exact p3.at
    refine O.p64.val (fun o ho => ex_assign ho) ?_
    rw [g29]
    have p5 := puts a5 (d := 5) (.slice ar rows[i].length cr) (by rw [p4.size, p3.size, p2.size, p1.size, p0.size]; omega)
    generalize a5.put (some 5) (.slice ar rows[i].length cr) = a6 at p5 ⊢
    have h6 := ((((h1.put p1 (by omega)).put p2 (by omega)).put p3 (by omega)).put p4 (by omega)).put p5 (by omega)
    have z6 := h6.tsz
    show Code.wp _ _ _ a6 w
    refine wp_seq (wp_region ?_)
    rw [O.s7]
    show wpOps P o7 _ [0, 1, 2] a6 w
    refine O.p70.val (fun o ho => ex_move ho) ?_
    rw [p5.at]
    have p6 := puts a6 (d := 30) (.slice ar rows[i].length cr) (by omega)
    generalize a6.put (some 30) (.slice ar rows[i].length cr) = a7 at p6 ⊢
    refine O.p71.val (fun o ho => ex_len ho (by show (some tI).bind P.underlying = _; exact T.hI) p6.at) ?_
    have p7 := puts a7 (d := 31) (.int .i64 (rows[i].length : Int)) (by rw [p6.size]; omega)
    generalize a7.put (some 31) (.int .i64 (rows[i].length : Int)) = a8 at p7 ⊢
    refine O.p72.val (fun o ho => ex_move ho) ?_
    rw [ev_const]
    have p8 := puts a8 (d := 32) (.int .i64 0) (by rw [p7.size, p6.size]; omega)
    generalize a8.put (some 32) (.int .i64 0) = a9 at p8 ⊢
    have h9 := ((h6.put p6 (by omega)).put p7 (by omega)).put p8 (by omega)
    have k4 : a9.eval (.tmp 4) = .int .i64 (i : Int) := by rw [p8.ne (by omega), p7.ne (by omega), p6.ne (by omega), p5.ne (by omega)]; exact p4.at
    have k25 : a9.eval (.tmp 25) = .int .i64 (i : Int) := by rw [p8.ne (by omega), p7.ne (by omega), p6.ne (by omega), p5.ne (by omega), p4.ne (by omega), p3.ne (by omega), p2.ne (by omega)]; exact g25'
    have k30 : a9.eval (.tmp 30) = .slice ar rows[i].length cr := by rw [p8.ne (by omega), p7.ne (by omega)]; exact p6.at
    have k31 : a9.eval (.tmp 31) = .int .i64 (rows[i].length : Int) := by rw [p8.ne (by omega)]; exact p7.at
    show Code.wp _ _ _ a9 w
    have hfl := hflat i hil'
    refine lv_inner T O hR hz0 h3 hil' (hin _ (List.getElem_mem hil')) (by omega) (fun k => ?_) h9 k4 k25 k30 k31 p8.at c2 _ (fun a10 w10 h10 k10 => ?_)
    · have := pushRows_len (rows.take i) 0 (fun _ => []) k
      simp only [List.length_nil] at this
      omega
    show Code.wp _ _ _ a10 w10
    have z10 := h10.tsz
    refine wp_region ?_
    rw [O.s12]
    show wpOps P o12 _ [0, 1] a10 w10
    refine O.p120.val (fun o ho => ex_add ho k10 (ev_const a10 _)) ?_
    rw [wi64 i (by omega)]
    have p11 := puts a10 (d := 47) (.int .i64 ((i + 1 : Nat) : Int)) (by omega)
    generalize a10.put (some 47) (.int .i64 ((i + 1 : Nat) : Int)) = a11 at p11 ⊢
    refine O.p121.val (fun o ho => ex_move ho) ?_
    rw [p11.at]
    have p12 := puts a11 (d := 25) (.int .i64 ((i + 1 : Nat) : Int)) (by rw [p11.size]; omega)
    generalize a11.put (some 25) (.int .i64 ((i + 1 : Nat) : Int)) = a12 at p12 ⊢
    have h12 := (h10.put p11 (by omega)).put p12 (by omega)
    have hXs : pushRow (pushRows (fun _ => []) 0 (rows.take i)) (i : Int) rows[i] = pushRows (fun _ => []) 0 (rows.take (i + 1)) := by
      rw [List.take_succ_eq_append_getElem hil', pushRows_snoc, List.length_take, show 0 + min i rows.length = i by omega]
    rw [hXs] at h12
    show (∃ i, _) ∧ _
    refine ⟨⟨i + 1, hil, h12, p12.at⟩, ?_⟩
    rw [p12.at, e25]
    show ((n : Int) - ((i + 1 : Nat) : Int)).toNat < ((n : Int) - (i : Int)).toNat
    omega
  · rw [decide_eq_false (by omega : ¬ (i : Int) < (n : Int))] at p0
    refine wp_cond_false p0.at (wp_exit ?_)
    have : i = rows.length := by omega
    rw [this, List.take_length] at h1
    exact hQ _ _ h1
end
end Go.Ab
