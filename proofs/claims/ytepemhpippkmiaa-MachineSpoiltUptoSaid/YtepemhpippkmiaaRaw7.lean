/- machine.Live: what stands ahead of its two loops, and what the rest of its text begins with. -/
import Derived.Test.YtepemhpippkmiaaRawA
import Derived.Test.YtepemhpippkmiaaJoin
namespace Go.Ab
open Go
set_option linter.unusedVariables false
set_option linter.unusedSimpArgs false

theorem RelSt.reslot {E : Env} {w0 : World} {own0 : Nat → Bool → Prop} {st : St} {D : List Nat} {tmps tmps' : Array Value} {w : World} (h : RelSt E w0 own0 st D tmps w) {sl' : List S} (hs : sl'.length = tmps'.size)
    (hv : ∀ i, RelV E st.tb w (sl'.getD i .junk) (tmps'.getD i undef)) (hk : ∀ i k, k ∈ keysOf (sl'.getD i .junk) → Known st.ep D k) : RelSt E w0 own0 ⟨sl', st.tb, st.ep, st.np⟩ D tmps' w := by
  obtain ⟨h1, h2, h3, h4, h5, h6, h7, h8, h9, h10, h11, h12⟩ := h
  exact ⟨hs, hv, h3, h4, h5, h6, h7, hk, h9, h10, h11, h12⟩
theorem relV_junk {E : Env} {tb : Tbl} {w : World} (v : Value) : RelV E tb w .junk v := by
  rw [relV_scalar rfl]; exact ⟨v, rfl⟩

theorem pushRow_mem (s : Int) : ∀ (l : List Int) (X : Nat → List Int) (i : Nat) (x : Int), x ∈ pushRow X s l i → x ∈ X i ∨ x = s
  | [], X, i, x, h => .inl h
  | k :: r, X, i, x, h => by
    rcases pushRow_mem s r _ i x h with h | h
    · by_cases hk : i = k.toNat
      · simp only [if_pos hk, List.mem_append, List.mem_singleton] at h
        rw [hk]; exact h
      · simp only [if_neg hk] at h
        exact .inl h
    · exact .inr h
theorem pushRows_mem : ∀ (r : List (List Int)) (s : Nat) (X : Nat → List Int) (i : Nat) (x : Int), x ∈ pushRows X s r i → x ∈ X i ∨ ∃ t : Nat, x = (t : Int) ∧ t < s + r.length
  | [], s, X, i, x, h => .inl h
  | l :: r, s, X, i, x, h => by
    rcases pushRows_mem r (s + 1) _ i x h with h | ⟨t, h1, h2⟩
    · rcases pushRow_mem s l X i x h with h | h
      · exact .inl h
      · exact .inr ⟨s, h, by simp⟩
    · exact .inr ⟨t, h1, by simp; omega⟩
def fromK (rows : List (List Int)) : List (List Int) := (List.range rows.length).map (pushRows (fun _ => []) 0 rows)
def fromG (rows : List (List Int)) : Bool := rows.all (fun l => l.all fun k => decide (0 ≤ k) && decide (k < (rows.length : Int))) && (decide (rows.flatten.length + 1 < SMALL) && decide (rows.length < SMALL))
abbrev TI : Ty := .slice (.int .i64)
/-- the state behind the two loops -/
def stFrom (m : Nat) (ent : Ent) (xss : List (List Int)) : St :=
  ⟨((List.replicate m S.junk).set 1 (.ptr 0 [])).set 3 (.own TI (mk 1 0 0)), (tbOf [ent]).set (mk 1 0 0) (some (.buf TI xss false)), 2, 0⟩

/-- the text ahead of the loops, and more types -/
structure LvP (P : Program) (tD tO tI ti : TypeId) (o3 o4 : Array Oper) (fs : Array Field) (f1 : Field) (infI : TypeInfo) (zI : Value) : Prop where
  hD : P.underlying tD = some (.struct fs)
  hf : fs[1]? = some f1
  off : f1.offset = 256
  cf : cellsT P f1.type = some 1
  cO : cellsT P tO = some 1
  aO : isAggT P tO = false
  hinf : P.info? tI = some infI
  hzero : infI.zero = some zI
  hzc : zI.cells = #[.slice none 0 0]
  hsz : infI.size = 1
  hb2 : infI.bytes ≤ 4096
  s3 : o3.size = 5
  p30 : OpIs o3 0 (.fieldAddr tD (.tmp 1) 1) (some 18)
  p31 : OpIs o3 1 (.load tO (.tmp 18)) (some 19)
  p32 : OpIs o3 2 (.call { callee := .builtin .len, args := #[.tmp 19], argTypes := #[tO] }) (some 20)
  p33 : OpIs o3 3 (.makeSlice tO (.tmp 20) (.tmp 20)) (some 21)
  p34 : OpIs o3 4 (.assign (.tmp 21)) (some 3)
  s4 : o4.size = 4
  p40 : OpIs o4 0 (.fieldAddr tD (.tmp 1) 1) (some 22)
  p41 : OpIs o4 1 (.load tO (.tmp 22)) (some 23)
  p42 : OpIs o4 2 (.call { callee := .builtin .len, args := #[.tmp 23], argTypes := #[tO] }) (some 24)
  p43 : OpIs o4 3 (.move (.const (.int .i64 0))) (some 25)

section
variable {C : Ctx} {tD tO tI ti : TypeId} {tys : Array TypeId} {inf infI : TypeInfo} {z zI : Value} {fs : Array Field} {f1 : Field} {o3 o4 o5 o6 o7 o8 o9 o10 o11 o12 : Array Oper}

theorem good_from {R : Type} (T : LvT C.P tO tI ti tys inf z) (O : LvO tO tI ti tys o5 o6 o7 o8 o9 o10 o11 o12) (Q3 : LvP C.P tD tO tI ti o3 o4 fs f1 infI zI) {m : Nat} (hm : 50 ≤ m) {cls : List Int} {rows : List (List Int)} {ends : List Bool} {y : Code} {K : Out → St → Option R} {r : R}
    (hg : fromG rows = true) (hy : Good C y (stFrom m (.box (.st [.arr 256 (.int .u8) cls, .sl TI rows, .sl .bool ends]) false) (fromK rows)) K r) :
    Good C (.seq (.region 3 o3 false) (.seq (.seq (.region 4 o4 false) (.block 0 (.loop (.seq (.region 5 o5 false) (.seq (.cond (.tmp 26) .skip (.exit 0)) (.seq (.block 1 (.seq (.region 6 o6 false) (.seq (.region 7 o7 false)
      (.block 2 (.loop (.seq (.region 8 o8 false) (.seq (.cond (.tmp 33) .skip (.exit 2)) (.seq (.block 3 (.seq (.region 9 o9 false) (.region 10 o10 false))) (.region 11 o11 false))))))))) (.region 12 o12 false))))))) y))
      (placeSt m 0 [1] [.ptr 0 []] [.box (.st [.arr 256 (.int .u8) cls, .sl TI rows, .sl .bool ends]) false]) K r := by
  unfold fromG at hg
  simp only [Bool.and_eq_true, List.all_eq_true, decide_eq_true_eq] at hg
  obtain ⟨hin, htot, hnS⟩ := hg
  obtain ⟨o, st', k1, k2⟩ := hy
  refine ⟨o, st', k1, fun hep hnp E w0 own0 a w hgl hR => ?_⟩
  have hS : SMALL = 17179869184 := rfl
  -- the machine, as it lies
  have hsize : a.tmps.size = m := by rw [← hR.size]; simp [placeSt, placeL_len]
  have hsl1 : (placeSt m 0 [1] [.ptr 0 []] [Ent.box (.st [.arr 256 (.int .u8) cls, .sl TI rows, .sl .bool ends]) false]).sl.getD 1 .junk = .ptr 0 [] := by
    show (((List.replicate m S.junk).set 1 (.ptr 0 [])).getD 1 .junk) = _
    rw [List.getD_eq_getElem?_getD, List.getElem?_set_self (by simp; omega)]; rfl
  have q1 := hR.slot 1
  rw [hsl1, relV_scalar rfl] at q1
  have q2 := hR.ent 0 _ (show (tbOf [Ent.box (.st [.arr 256 (.int .u8) cls, .sl TI rows, .sl .bool ends]) false]) 0 = some _ from rfl)
  have q1 : True ∧ ∃ b o, E.κ 0 = some (b, o) ∧ [a.tmps.getD 1 undef] = [.pointer (some ⟨b, o + 0, none⟩)] := q1
  obtain ⟨_, bd, od, hκ, q1⟩ := q1
  obtain ⟨bd', cs, hκ', hbd, hlies, hrel, _, _, hnav⟩ := q2
  rw [hκ] at hκ'; cases hκ'
  have e1 : a.eval (.tmp 1) = .pointer (some ⟨bd, 0, none⟩) := (List.cons.inj q1).1
  have hrel : ∃ c1 c2, cs = c1 ++ c2 ∧ Rt w (E.ok _) (.arr 256 (.int .u8)) c1 cls ∧ ∃ c3 c4, c2 = c3 ++ c4 ∧ Rt w (E.ok _) (.slice TI) c3 rows ∧ _ := hrel
  obtain ⟨c1, c2, rfl, r1, c3, c4, rfl, r2, _⟩ := hrel
  have hc1 : c1.length = 256 := Rt.length r1
  obtain ⟨ar, cap, rfl, hcap, hmax, hel⟩ := r2
  have hcell : w.cell? ⟨bd, 256, none⟩ = some (.slice ar rows.length cap) := by
    have := hlies 256 (.slice ar rows.length cap) (by rw [List.getElem?_append_right (by omega), hc1]; rfl)
    rwa [Nat.zero_add] at this
  have hMAX : MAXL = 4611686018427387904 := rfl
  obtain ⟨br, ob, har, hRows⟩ : ∃ br ob, (rows ≠ [] → ar = some ⟨br, ob, none⟩) ∧ RowsAt w br ob rows := by
    rcases hel with rfl | ⟨br, ob, rfl, _, _, hel⟩
    · exact ⟨0, 0, fun h => absurd rfl h, fun i h => absurd h (by simp)⟩
    · refine ⟨br, ob, fun _ => rfl, fun i hi => ?_⟩
      obtain ⟨ecs, l1, l2⟩ := hel i hi
      obtain ⟨ai, ci, rfl, _, _, l4⟩ := l2
      refine ⟨ai, ci, ?_, fun j hj => ?_⟩
      · have := l1 0 _ rfl
        rwa [show ob + i * Ty.size TI + 0 = ob + i by simp [Ty.size]] at this
      · rcases l4 with l4 | ⟨bi, oi, rfl, _, _, l5⟩
        · have : rows[i].length = 0 := by rw [show rows[i] = [] from l4]; rfl
          omega
        · refine ⟨bi, oi, rfl, ?_⟩
          obtain ⟨ecs, m1, m2⟩ := l5 j hj
          obtain ⟨rfl, _⟩ := m2
          have := m1 0 _ rfl
          rwa [show oi + j * Ty.size (.int .i64) + 0 = oi + j by simp [Ty.size]] at this
  -- the new list
  refine wp_seq (wp_region ?_)
  rw [Q3.s3]
  show wpOps C.P o3 _ [0, 1, 2, 3, 4] a w
  refine Q3.p30.val (fun o ho => ex_field ho Q3.hD Q3.hf Q3.cf e1) ?_
  rw [Q3.off, Nat.zero_add]
  have p0 := puts a (d := 18) (.pointer (some ⟨bd, 256, none⟩)) (by omega)
  generalize a.put (some 18) (.pointer (some ⟨bd, 256, none⟩)) = a1 at p0 ⊢
  refine Q3.p31.val (fun o ho => ex_load ho p0.at Q3.cO Q3.aO hcell) ?_
  have p1 := puts a1 (d := 19) (.slice ar rows.length cap) (by rw [p0.size]; omega)
  generalize a1.put (some 19) (.slice ar rows.length cap) = a2 at p1 ⊢
  refine Q3.p32.val (fun o ho => ex_len ho (by show (some tO).bind C.P.underlying = _; exact T.hO) p1.at) ?_
  have p2 := puts a2 (d := 20) (.int .i64 (rows.length : Int)) (by rw [p1.size, p0.size]; omega)
  generalize a2.put (some 20) (.int .i64 (rows.length : Int)) = a3 at p2 ⊢
  refine Q3.p33.val (fun o ho => ex_make ho T.hO Q3.hinf Q3.hzero p2.at (by
    have : (infI.bytes : Int) * (rows.length : Int) ≤ 4096 * (rows.length : Int) := Int.mul_le_mul_of_nonneg_right (by have := Q3.hb2; omega) (by omega)
    omega) (by omega)) ?_
  rw [Q3.hzc, Q3.hsz, Nat.mul_one]
  have p3 := puts a3 (d := 21) (.slice (some ⟨w.heap.size, 0, none⟩) rows.length rows.length) (by rw [p2.size, p1.size, p0.size]; omega)
  generalize a3.put (some 21) (.slice (some ⟨w.heap.size, 0, none⟩) rows.length rows.length) = a4 at p3 ⊢
  refine Q3.p34.val (fun o ho => ex_assign ho) ?_
  rw [p3.at]
  have p4 := puts a4 (d := 3) (.slice (some ⟨w.heap.size, 0, none⟩) rows.length rows.length) (by rw [p3.size, p2.size, p1.size, p0.size]; omega)
  generalize a4.put (some 3) (.slice (some ⟨w.heap.size, 0, none⟩) rows.length rows.length) = a5 at p4 ⊢
  have z5 : a5.tmps.size = m := by rw [p4.size, p3.size, p2.size, p1.size, p0.size, hsize]
  have d5 : a5.defers = a.defers := by rw [p4.df, p3.df, p2.df, p1.df, p0.df]
  have k5 : a5.eval (.tmp 1) = .pointer (some ⟨bd, 0, none⟩) := by rw [p4.ne (by omega), p3.ne (by omega), p2.ne (by omega), p1.ne (by omega), p0.ne (by omega)]; exact e1
  obtain ⟨hs, hhs⟩ : ∃ hs, hs = madeCells #[Value.slice none 0 0] rows.length := ⟨_, rfl⟩
  rw [← hhs]
  have hhs1 : hs.size = rows.length := by rw [hhs]; simp [madeCells]
  have hhs2 : ∀ i, i < rows.length → hs[i]? = some (.slice none 0 0) := fun i hi => by
    rw [hhs]; simp [madeCells, hi, Nat.mod_one]
  obtain ⟨wm, hwm⟩ : ∃ wm, wm = w.alloc (.cells hs tI) := ⟨_, rfl⟩
  rw [← hwm]
  have hwm1 : ∀ c, c < w.heap.size → wm.heap[c]? = w.heap[c]? := fun c hc => by rw [hwm]; exact push_lt hc
  have hwm2 : wm.heap[w.heap.size]? = some (.cells hs tI (0, 0)) := by rw [hwm]; exact push_eq
  have hwm3 : wm.heap.size = w.heap.size + 1 := by rw [hwm]; show (w.heap.push _).size = _; simp
  -- the machine's rows once more
  show Code.wp _ _ _ a5 wm
  refine wp_seq (wp_seq (wp_region ?_))
  rw [Q3.s4]
  show wpOps C.P o4 _ [0, 1, 2, 3] a5 wm
  refine Q3.p40.val (fun o ho => ex_field ho Q3.hD Q3.hf Q3.cf k5) ?_
  rw [Q3.off, Nat.zero_add]
  have p6 := puts a5 (d := 22) (.pointer (some ⟨bd, 256, none⟩)) (by omega)
  generalize a5.put (some 22) (.pointer (some ⟨bd, 256, none⟩)) = a6 at p6 ⊢
  refine Q3.p41.val (fun o ho => ex_load ho p6.at Q3.cO Q3.aO (by rw [cell_same (hwm1 _ hbd)]; exact hcell)) ?_
  have p7 := puts a6 (d := 23) (.slice ar rows.length cap) (by rw [p6.size]; omega)
  generalize a6.put (some 23) (.slice ar rows.length cap) = a7 at p7 ⊢
  refine Q3.p42.val (fun o ho => ex_len ho (by show (some tO).bind C.P.underlying = _; exact T.hO) p7.at) ?_
  have p8 := puts a7 (d := 24) (.int .i64 (rows.length : Int)) (by rw [p7.size, p6.size]; omega)
  generalize a7.put (some 24) (.int .i64 (rows.length : Int)) = a8 at p8 ⊢
  refine Q3.p43.val (fun o ho => ex_move ho) ?_
  rw [ev_const]
  have p9 := puts a8 (d := 25) (.int .i64 0) (by rw [p8.size, p7.size, p6.size]; omega)
  generalize a8.put (some 25) (.int .i64 0) = a9 at p9 ⊢
  have z9 : a9.tmps.size = m := by rw [p9.size, p8.size, p7.size, p6.size, z5]
  have d9 : a9.defers = a.defers := by rw [p9.df, p8.df, p7.df, p6.df, d5]
  have g1 : a9.eval (.tmp 1) = .pointer (some ⟨bd, 0, none⟩) := by rw [p9.ne (by omega), p8.ne (by omega), p7.ne (by omega), p6.ne (by omega)]; exact k5
  have g3 : a9.eval (.tmp 3) = .slice (some ⟨w.heap.size, 0, none⟩) rows.length rows.length := by rw [p9.ne (by omega), p8.ne (by omega), p7.ne (by omega), p6.ne (by omega)]; exact p4.at
  have g23 : a9.eval (.tmp 23) = .slice ar rows.length cap := by rw [p9.ne (by omega), p8.ne (by omega)]; exact p7.at
  have g24 : a9.eval (.tmp 24) = .int .i64 (rows.length : Int) := by rw [p9.ne (by omega)]; exact p8.at
  show Code.wp _ _ _ a9 wm
  have hI0 : LvI w w.heap.size rows.length tI ti a9 (fun _ => []) a9 wm := by
    refine ⟨⟨fun _ => none, ⟨⟨hs, hwm2, hhs1, fun i hi => ⟨_, hhs2 i hi, .inl ⟨rfl, rfl, rfl⟩⟩⟩, (fun i j c _ _ h => by cases h), (fun i c _ h => by cases h)⟩, (fun i c _ h => by cases h)⟩, Nat.le_refl _, by omega, hwm1, by rw [hwm]; rfl, by rw [hwm]; rfl, by rw [hwm]; rfl, rfl, rfl, fun _ _ => rfl, fun c o hc ho => unfrozen_push (w := w) (unfrozen_cells (.inl rfl)) (by rw [hwm]; rfl) c o (.inl hc) ho⟩
  refine lv_outer T O hRows (by omega) g3 rfl (by omega) g24 (fun hne => by rw [g23, har hne]) (fun l hl k hk => by have := hin l hl k hk; omega) htot hI0 p9.at _ (fun a' w' hI => ?_)
  -- what the rest begins with
  show Code.wp _ _ _ a' w'
  obtain ⟨bs, hN, hbs⟩ := hI.N
  obtain ⟨hd, n1, n2, n3⟩ := hN.out
  have hbw : w.heap.size < w'.heap.size := by
    by_cases h : w.heap.size < w'.heap.size
    · exact h
    · rw [Array.getElem?_eq_none (by omega)] at n1; cases n1
  obtain ⟨E', hE'⟩ : ∃ E' : Env, E' = E.upd ((placeSt m 0 [1] [.ptr 0 []] [Ent.box (.st [.arr 256 (.int .u8) cls, .sl TI rows, .sl .bool ends]) false]).ep * 4096 + 0) (fun j => if j = 0 then some (w.heap.size, 0) else none) := ⟨_, rfl⟩
  have hm0 : mk 1 0 0 / 64 = 1 * 4096 + 0 := by decide
  have hm1 : mk 1 0 0 % 64 = 0 := by decide
  have hfl : (fromK rows).length = rows.length := by unfold fromK; simp
  have U := turn_new (E := E) (w0 := w0) (own0 := own0) (a := a) (L := [(mk 1 0 0, some (.buf TI (fromK rows) false))]) (f := fun j => if j = 0 then some (w.heap.size, 0) else none) (w' := w') (i := 0) hR (by simp) (by omega) hI.size hI.os hI.tape hI.output hI.old
    (by intro p hp; simp only [List.mem_singleton] at hp; subst hp; exact hm0) (by intro j p hp; split at hp <;> cases hp; exact Nat.le_refl _) (by intro j k p q h1 h2 _; split at h1 <;> split at h2 <;> first | omega | (simp at h1 h2)) (by
      intro k e hk _ M
      simp only [List.mem_singleton, Prod.mk.injEq, Option.some.injEq] at hk
      obtain ⟨rfl, rfl⟩ := hk
      refine ⟨⟨by rw [hfl]; omega, ?_⟩, by simp [Ent.keys]⟩
      rw [upd_new (by exact hm0), hm1, if_pos rfl]
      refine ⟨hbw, fun _ hav => by have := hR.avlt _ _ hav; omega, fun _ => ⟨hd, tI, 0, 0, n1, .inl rfl⟩, fun i hi => ?_⟩
      rw [hfl] at hi
      obtain ⟨v, v1, v2⟩ := n3 i hi
      have hxi : (fromK rows)[i]'(by rw [hfl]; exact hi) = pushRows (fun _ => []) 0 rows i := by unfold fromK; simp
      refine ⟨[v], ?_, ?_⟩
      · intro j u hj
        cases j with
        | zero =>
          simp at hj; subst hj
          rw [show (0 : Nat) + i * Ty.size TI + 0 = i by simp [Ty.size], cell_arr n1]; exact v1
        | succ j => simp at hj
      · rw [hxi]
        rcases v2 with ⟨_, v3, v4⟩ | ⟨c, cp, cur, rest, v3, v4, v5, v6, v7, v8⟩
        · rw [v4, v3]
          exact ⟨none, 0, rfl, Nat.le_refl _, Nat.zero_le _, .inl rfl⟩
        · rw [v4]
          have hcl := hbs i c hi v3
          have hco := hN.other i c hi v3
          have hlen := pushRows_len rows 0 (fun _ => []) i
          simp only [List.length_nil, Nat.zero_add] at hlen
          refine ⟨some ⟨c, 0, none⟩, cp, rfl, v7, by omega, .inr ⟨c, 0, rfl, ⟨fun hav => by have := hR.avlt _ _ hav; omega, fun k p e hp he hf hpc => ?_⟩, hco.2, fun j hj => ⟨[.int .i64 (pushRows (fun _ => []) 0 rows i)[j]], ?_, rfl, ?_⟩⟩⟩
          · change (E.upd (1 * 4096 + 0) (fun j => if j = 0 then some (w.heap.size, 0) else none)).κ k = some p at hp
            by_cases hk : k / 64 = 1 * 4096 + 0
            · rw [upd_new hk] at hp
              split at hp <;> cases hp
              exact hco.1 hpc.symm
            · rw [upd_old hk] at hp
              have he' : (tbOf [Ent.box (.st [.arr 256 (.int .u8) cls, .sl TI rows, .sl .bool ends]) false]) k = some e := by
                have : k ≠ mk 1 0 0 := fun q => hk (by rw [q]; exact hm0)
                have h2 : ((tbOf [Ent.box (.st [.arr 256 (.int .u8) cls, .sl TI rows, .sl .bool ends]) false]).set (mk 1 0 0) (some (.buf TI (fromK rows) false))) k = some e := he
                rwa [set_ne _ this] at h2
              have := (hR.ent k e he').lt hp
              omega
          · intro q u hq
            cases q with
            | zero =>
              simp at hq; subst hq
              rw [show (0 : Nat) + j * Ty.size (.int .i64) + 0 = j by simp [Ty.size], cell_arr v5]
              have : cur.toList[j]? = some (.int .i64 (pushRows (fun _ => []) 0 rows i)[j]) := by
                rw [v8, List.getElem?_append_left (by rw [ints_len]; exact hj)]
                unfold ints
                rw [List.getElem?_map, List.getElem?_eq_getElem hj]; rfl
              rw [← Array.getElem?_toList]; exact this
            | succ q => simp at hq
          · rcases pushRows_mem rows 0 (fun _ => []) i _ (List.getElem_mem hj) with h | ⟨t, h1, h2⟩
            · simp at h
            · rw [h1]; exact inK_len (by omega)) (fun b o hb ho => hI.free b o (by rcases hb with hb | hb; exact hb; exact hb.elim) ho)
  have hR1 := hR.turn (D' := [0]) U (fun k hk => hk.notFresh (by simp) (by omega)) (fun k hk => hk.cons) (fun k hk => hk) (fun k hk => known_new hk)
  have hz' : a'.tmps.size = m := hI.tsz.trans z9
  have hget : ∀ i : Nat, ((((List.replicate m S.junk).set 1 (.ptr 0 [])).set 3 (.own TI (mk 1 0 0))).getD i .junk = .junk) ∨ i = 1 ∨ i = 3 := by
    intro i
    by_cases h1 : i = 1
    · exact .inr (.inl h1)
    by_cases h3 : i = 3
    · exact .inr (.inr h3)
    left
    rw [List.getD_eq_getElem?_getD, List.getElem?_set_ne (by omega), List.getElem?_set_ne (by omega), List.getElem?_replicate]
    split <;> rfl
  have hget1 : (((List.replicate m S.junk).set 1 (.ptr 0 [])).set 3 (.own TI (mk 1 0 0))).getD 1 .junk = .ptr 0 [] := by
    rw [List.getD_eq_getElem?_getD, List.getElem?_set_ne (by omega), List.getElem?_set_self (by simp; omega)]; rfl
  have hget3 : (((List.replicate m S.junk).set 1 (.ptr 0 [])).set 3 (.own TI (mk 1 0 0))).getD 3 .junk = .own TI (mk 1 0 0) := by
    rw [List.getD_eq_getElem?_getD, List.getElem?_set_self (by simp; omega)]; rfl
  have ht1 : a'.tmps.getD 1 undef = a.tmps.getD 1 undef := by
    have : a'.eval (.tmp 1) = a.eval (.tmp 1) := by rw [hI.ev 1 (by omega), g1, e1]
    exact this
  have ht3 : a'.tmps.getD 3 undef = .slice (some ⟨w.heap.size, 0, none⟩) rows.length rows.length := by
    have : a'.eval (.tmp 3) = _ := (hI.ev 3 (by omega)).trans g3
    exact this
  have hR2 := (hR1.reslot (sl' := ((List.replicate m S.junk).set 1 (.ptr 0 [])).set 3 (.own TI (mk 1 0 0))) (tmps' := a'.tmps) (by simp; omega) (fun i => by
    rcases hget i with h | rfl | rfl
    · rw [h]; exact relV_junk _
    · rw [hget1, ht1]
      have h := hR1.slot 1
      have h := (congrArg (fun s => RelV _ _ w' s (a.tmps.getD 1 undef)) hsl1).mp h
      exact h
    · rw [hget3, ht3, relV_scalar rfl]
      have hk : (Tbl.sets (placeSt m 0 [1] [.ptr 0 []] [Ent.box (.st [.arr 256 (.int .u8) cls, .sl TI rows, .sl .bool ends]) false]).tb [(mk 1 0 0, some (.buf TI (fromK rows) false))]) (mk 1 0 0) = some (.buf TI (fromK rows) false) := by
        show ((tbOf [Ent.box (.st [.arr 256 (.int .u8) cls, .sl TI rows, .sl .bool ends]) false]).set (mk 1 0 0) (some (.buf TI (fromK rows) false))) (mk 1 0 0) = _
        exact set_eq _ _ _
      simp only [Rel]
      rw [hk]
      refine ⟨some ⟨w.heap.size, 0, none⟩, rows.length, by rw [hfl], by rw [hfl]; exact Nat.le_refl _, ?_⟩
      rw [upd_new (by exact hm0), hm1, if_pos rfl]
      refine ⟨rfl, fun i hi => ?_, by unfold CAPM; omega⟩
      rw [show 0 + i = i by omega, cell_arr n1]
      have : i < hd.size := by rw [n2]; simpa [Ty.size] using hi
      rw [Array.getElem?_eq_getElem this]; rfl) (fun i k hk => by
    rcases hget i with h | rfl | rfl
    · rw [h] at hk; simp [keysOf] at hk
    · rw [hget1] at hk
      exact (hR.keyS 1 k (by rw [hsl1]; exact hk)).cons
    · rw [hget3] at hk
      simp only [keysOf, List.mem_singleton] at hk
      subst hk
      exact known_new hm0)).next (fun d hd => by simp at hd; omega)
  have hk2 := k2 (by show 1 ≤ 2; omega) (by show 0 < 64; omega) _ w0 own0 a' w' (show (E.upd _ _).gl = _ from hgl) hR2
  refine Code.wp_mono' hk2 ?_
  rintro e a'' w'' ⟨rfl, hkept⟩
  exact ⟨rfl, Kept.trans (E' := E.upd (1 * 4096 + 0) fun j => if j = 0 then some (w.heap.size, 0) else none) (st' := stFrom m (.box (.st [.arr 256 (.int .u8) cls, .sl TI rows, .sl .bool ends]) false) (fromK rows)) (a' := a') ⟨rfl, rfl, fun k hk => absurd hk (Nat.not_lt_zero k), fun k hk => absurd hk (Nat.not_lt_zero k)⟩ (hI.df.trans d9) rfl (by simp [stFrom, placeSt, placeL_len]) hkept⟩
end
end Go.Ab
