/- RawC: a part of the proofs of this seat's statements. -/
import Derived.Test.YtnnojemckfikfaaRaw11
/- LeastApart: its loops. -/
namespace Go.Ab
open Go
set_option linter.unusedVariables false
set_option linter.unusedSimpArgs false
set_option maxRecDepth 4000

/-- so many rounds -/
def itN {S : Type} (f : Nat → S → S) : Nat → S → S
  | 0, s => s
  | n + 1, s => f n (itN f n s)
def bitF (m : ApM) (i j x : Nat) (X : Nat → Nat → Bool) : Nat → Nat → Bool := updM X i j (X i j || X (m.nx i x) (m.nx j x))
def cellF (m : ApM) (i j : Nat) (X : Nat → Nat → Bool) : Nat → Nat → Bool := itN (fun x X => bitF m i j x X) m.L X
def rowF (m : ApM) (i : Nat) (X : Nat → Nat → Bool) : Nat → Nat → Bool := itN (fun j X => cellF m i j X) m.k X
def roundF (m : ApM) (X : Nat → Nat → Bool) : Nat → Nat → Bool := itN (fun i X => rowF m i X) m.k X
def allF (m : ApM) (X : Nat → Nat → Bool) : Nat → Nat → Bool := itN (fun _ X => roundF m X) m.k X
def apartX (m : ApM) : Nat → Nat → Bool := allF m (fun p q => m.E p != m.E q)
def apartB (m : ApM) : Bool := ((List.range m.k).all fun i => (List.range m.k).all fun j => apartX m i j == !(decide (i = j))) && decide (0 < m.k)

theorem Mat.congr {w : World} {b n nI : Nat} {tR tB : TypeId} {bs : Nat → Nat} {X Y : Nat → Nat → Bool} (h : Mat w b n nI tR tB bs X) (hXY : ∀ i j, i < nI → j < n → X i j = Y i j) : Mat w b n nI tR tB bs Y :=
  ⟨h.out, fun i hi => by
    obtain ⟨cs, h1, h2, h3⟩ := h.row i hi
    exact ⟨cs, h1, h2, fun j hj => by rw [h3 j hj, hXY i j hi hj]⟩, h.apart, h.other⟩

/-- a row more -/
theorem Mat.addrow {P : Program} {w : World} {b n i : Nat} {tR tB : TypeId} {bs : Nat → Nat} {X : Nat → Nat → Bool} (h : Mat w b n i tR tB bs X) (hi : i < n) (hs1 : cellsT P tR = some 1) {cs : Array Value} (hcs : cs = madeCells #[.bool false] n) :
    ∃ w1 : World, (∀ (ev : Operand → Value) (o : Oper) (x y : Operand), o.op = .store tR x y → ev x = .pointer (some ⟨b, 0 + i * 1, none⟩) → ev y = .slice (some ⟨w.heap.size, 0, none⟩) n n → (execOp ev o).run P (w.alloc (.cells cs tB)) = .ok .skip w1) ∧
      Mat w1 b n (i + 1) tR tB (fun p => if p = i then w.heap.size else bs p) (fun p q => if p = i then false else X p q) ∧ w1.heap.size = w.heap.size + 1 ∧ (∀ c, c ≠ b → c < w.heap.size → w1.heap[c]? = w.heap[c]?) ∧ w1.os = w.os ∧ w1.tape = w.tape ∧ w1.output = w.output := by
  obtain ⟨hs, g1, g2, g3⟩ := h.out
  have hb1 := heap_lt g1
  obtain ⟨wA, hwA⟩ : ∃ wA, wA = w.alloc (.cells cs tB) := ⟨_, rfl⟩
  have hA1 : ∀ c, c < w.heap.size → wA.heap[c]? = w.heap[c]? := fun c hc => by rw [hwA]; exact push_lt hc
  have hA2 : wA.heap[w.heap.size]? = some (.cells cs tB (0, 0)) := by rw [hwA]; exact push_eq
  have hA3 : wA.heap.size = w.heap.size + 1 := by rw [hwA]; show (w.heap.push _).size = _; simp
  have g1' : wA.heap[b]? = some (.cells hs tR (0, 0)) := by rw [hA1 b hb1]; exact g1
  have h1v : (Value.slice (some ⟨w.heap.size, 0, none⟩) n n).oneCell' = true := by simp [Value.oneCell']
  obtain ⟨hs', q1, q2⟩ := run_storeRow (P := P) (b := b) (el := tR) (fz := (0, 0)) i [Value.slice (some ⟨w.heap.size, 0, none⟩) n n] 0 hs wA g1' (.inl rfl) (by simp; omega) (by intro u hu; rw [List.mem_singleton.1 hu]; exact h1v)
  have hc1 : (Value.slice (some ⟨w.heap.size, 0, none⟩) n n).cells.toList = [Value.slice (some ⟨w.heap.size, 0, none⟩) n n] := rfl
  have hc2 : (Value.slice (some ⟨w.heap.size, 0, none⟩) n n).cells.size = 1 := rfl
  have hne : ∀ c, c ≠ b → (wA.heap.setIfInBounds b (.cells hs' tR (0, 0)))[c]? = wA.heap[c]? := fun c hc => Array.getElem?_setIfInBounds_ne (fun q => hc q.symm)
  refine ⟨{ wA with heap := wA.heap.setIfInBounds b (.cells hs' tR (0, 0)) }, ?_, ?_, by simp; exact hA3, fun c hc hcl => ?_, by rw [hwA]; rfl, by rw [hwA]; rfl, by rw [hwA]; rfl⟩
  · intro ev o x y ho hx hy
    rw [show 0 + i * 1 = i by omega] at hx
    unfold execOp; rw [ho, ← hwA]
    simp only [Instr.storeAt, hx, Instr.sureAddr, storeVar, Sem.run_bind, Sem.run_pure, Result.andThen_ok, run_sizeT hs1, hy, hc2, ne_eq, not_true_eq_false, if_false, hc1, q1]
  · have hsz : hs'.size = n := by have := q2.1; simp at this; omega
    refine ⟨⟨hs', ?_, hsz, fun p hp => ?_⟩, fun p hp => ?_, fun p q hp hq => ?_, fun p hp => ?_⟩
    · show (wA.heap.setIfInBounds b _)[b]? = _
      rw [Array.getElem?_setIfInBounds_self_of_lt (by omega)]
    · rw [← Array.getElem?_toList, q2.2.2]
      by_cases hpi : p = i
      · subst hpi; rw [if_pos (by simp), if_pos rfl]; simp
      · rw [if_neg (by simp; omega), if_neg hpi, Array.getElem?_toList]; exact g3 p (by omega)
    · by_cases hpi : p = i
      · subst hpi
        refine ⟨cs, ?_, by rw [hcs]; simp [madeCells], fun q hq => ?_⟩
        · rw [if_pos rfl]
          show (wA.heap.setIfInBounds b _)[w.heap.size]? = _
          rw [hne _ (by omega)]; exact hA2
        · rw [if_pos rfl, hcs]; simp [madeCells, hq, Nat.mod_one]
      · obtain ⟨cp, r1, r2, r3⟩ := h.row p (by omega)
        rw [if_neg hpi]
        refine ⟨cp, ?_, r2, fun q hq => by rw [if_neg hpi]; exact r3 q hq⟩
        show (wA.heap.setIfInBounds b _)[bs p]? = _
        rw [hne _ (h.other p (by omega)).1, hA1 _ (h.other p (by omega)).2]; exact r1
    · by_cases h1 : p = i
      · by_cases h2 : q = i
        · intro _; omega
        · have := (h.other q (by omega)).2
          simp only [h1, h2, if_true, if_false]; intro hh; omega
      · by_cases h2 : q = i
        · have := (h.other p (by omega)).2
          simp only [h1, h2, if_true, if_false]; intro hh; omega
        · simp only [h1, h2, if_false]; intro hh; exact h.apart p q (by omega) (by omega) hh
    · show _ ∧ _ < (wA.heap.setIfInBounds b _).size
      simp only [Array.size_setIfInBounds, hA3]
      by_cases h1 : p = i
      · rw [if_pos h1]; omega
      · rw [if_neg h1]; have := h.other p (by omega); omega
  · show (wA.heap.setIfInBounds b _)[c]? = _
    rw [hne c hc, hA1 c hcl]

def lp (r : Nat → Array Oper) (z rh ri bId b1 t : Nat) (body : Code) : Code := .seq (.region z (r z) false) (.block bId (.loop (.seq (.seq (.region rh (r rh) false) (.cond (.tmp t) .skip (.exit bId))) (.seq (.block b1 body) (.region ri (r ri) false)))))
def apCode (r : Nat → Array Oper) : Code :=
  .seq (.region 8 (r 8) false) (.seq (.region 9 (r 9) false) (.seq (lp r 10 11 12 0 1 38 (.seq (.region 13 (r 13) false) (lp r 14 15 16 2 3 48 (.region 17 (r 17) true))))
    (.seq (lp r 18 19 20 4 5 70 (lp r 21 22 23 6 7 75 (lp r 24 25 26 8 9 80 (lp r 27 28 29 10 11 90 (.region 30 (r 30) true)))))
      (.seq (lp r 31 32 33 12 13 131 (lp r 34 35 36 14 15 136 (.seq (.region 37 (r 37) false) (.cond (.tmp 149) (.seq (.region 38 (r 38) false) .ret) .skip)))) (.seq (.region 39 (r 39) false) .ret)))))
structure ApO (r : Nat → Array Oper) : Prop where
  r8 : R8 (r 8)
  r9 : R9 (r 9)
  z10 : ZeroO (r 10) 10
  h11 : HeadO 3 (r 11) 36 10 8
  i12 : IncO 3 (r 12) 39 10
  r13 : R13 (r 13)
  z14 : ZeroO (r 14) 11
  h15 : HeadO 3 (r 15) 46 11 8
  i16 : IncO 3 (r 16) 49 11
  r17 : R17 (r 17)
  z18 : ZeroO (r 18) 12
  h19 : HeadO 3 (r 19) 68 12 8
  i20 : IncO 3 (r 20) 71 12
  z21 : ZeroO (r 21) 13
  h22 : HeadO 3 (r 22) 73 13 8
  i23 : IncO 3 (r 23) 76 13
  z24 : ZeroO (r 24) 14
  h25 : HeadO 3 (r 25) 78 14 8
  i26 : IncO 3 (r 26) 81 14
  z27 : ZeroO (r 27) 15
  r28 : R28 (r 28)
  i29 : IncO 3 (r 29) 91 15
  r30 : R30 (r 30)
  z31 : ZeroO (r 31) 16
  h32 : HeadO 3 (r 32) 129 16 8
  i33 : IncO 3 (r 33) 132 16
  z34 : ZeroO (r 34) 17
  h35 : HeadO 3 (r 35) 134 17 8
  i36 : IncO 3 (r 36) 137 17
  r37 : R37 (r 37)
  r38 : R38 (r 38)
  r39 : R39 (r 39)

section
variable {P : Program} {r : Nat → Array Oper}
theorem forH {z rh ri bId b1 c h g t N : Nat} {body : Code} (Z : ZeroO (r z) c) (H : HeadO 3 (r rh) h c 8) (I : IncO 3 (r ri) g c) (hc : 9 < c ∧ c < h ∧ c < g ∧ h + 3 ≤ 152 ∧ g + 2 ≤ 152) (ht : t = h + 2) (hN : N < 4611686018427387904) (J : Nat → Act → World → Prop) (Ret : Act → World → Prop)
    (hsz : ∀ i a w, J i a w → 152 ≤ a.tmps.size) (h8 : ∀ i a w, J i a w → a.eval (.tmp 8) = .int .i64 (N : Int))
    (hput : ∀ i a a' w d u, d = c ∨ d = g ∨ d = g + 1 ∨ d = h ∨ d = h + 1 ∨ d = h + 2 → Puts a d u a' → J i a w → J i a' w)
    (hbody : ∀ i, i < N → ∀ a w, J i a w → a.eval (.tmp c) = .int .i64 (i : Int) → ∀ Q' : Exit → Act → World → Prop, (∀ a' w', J (i + 1) a' w' → a'.eval (.tmp c) = .int .i64 (i : Int) → Q' .normal a' w') → (∀ a' w', Ret a' w' → Q' .ret a' w') → body.wp P Q' a w)
    {a : Act} {w : World} (h0 : J 0 a w) (Q : Exit → Act → World → Prop) (hQ : ∀ a' w', J N a' w' → Q .normal a' w') (hRet : ∀ a' w', Ret a' w' → Q .ret a' w') : (lp r z rh ri bId b1 t body).wp P Q a w := by
  subst ht
  refine wp_seq (zero_wp Z (by have := hsz 0 a w h0; omega) _ fun a1 p1 => ?_)
  show Code.wp _ _ _ a1 w
  refine for_wp I hc.2.2.1 (by omega) hN J Ret (fun i a w hJ => by have := hsz i a w hJ; omega) (fun i a a' w d u hd hp hJ => hput i a a' w d u (by omega) hp hJ) ?_ hbody (hput 0 a a1 w c _ (.inl rfl) p1 h0) p1.at Q hQ hRet
  intro i hi a w hJ ec Q' hQ'
  refine head_wp H hc.2.1 (by omega) (by have := hsz i a w hJ; omega) ec (h8 i a w hJ) Q' fun a1 a2 a3 q1 q2 q3 => ?_
  refine hQ' a3 (hput i _ _ w _ _ (by omega) q3 (hput i _ _ w _ _ (by omega) q2 (hput i _ _ w _ _ (by omega) q1 hJ))) ?_ q3.at
  rw [q3.ne (by omega), q2.ne (by omega), q1.ne (by omega)]; exact ec

/-- what holds between the steps -/
def Inv (w0 : World) (m : ApM) (a0 : Act) (nI : Nat) (X : Nat → Nat → Bool) (cs : List (Nat × Nat)) (a : Act) (w : World) : Prop :=
  Api w0 m a0 a w ∧ (∀ p ∈ cs, a.eval (.tmp p.1) = .int .i64 ((p.2 : Nat) : Int)) ∧ ∃ bs, Sq w0 m.k nI bs X w
theorem Inv.put {w0 : World} {m : ApM} {a0 : Act} {nI : Nat} {X : Nat → Nat → Bool} {cs : List (Nat × Nat)} {a a' : Act} {w : World} (h : Inv w0 m a0 nI X cs a w) {d : Nat} {u : Value} (hp : Puts a d u a') (hd : d < 7 ∨ 9 < d) (hcs : ∀ p ∈ cs, p.1 ≠ d) : Inv w0 m a0 nI X cs a' w :=
  ⟨h.1.put hp hd, fun p hpc => by rw [hp.ne (hcs p hpc)]; exact h.2.1 p hpc, h.2.2⟩
theorem Inv.add {w0 : World} {m : ApM} {a0 : Act} {nI : Nat} {X : Nat → Nat → Bool} {cs : List (Nat × Nat)} {a : Act} {w : World} (h : Inv w0 m a0 nI X cs a w) {c i : Nat} (hc : a.eval (.tmp c) = .int .i64 (i : Int)) : Inv w0 m a0 nI X ((c, i) :: cs) a w :=
  ⟨h.1, fun p hp => by
    rcases List.mem_cons.1 hp with rfl | hp
    · exact hc
    · exact h.2.1 p hp, h.2.2⟩
theorem Inv.drop {w0 : World} {m : ApM} {a0 : Act} {nI : Nat} {X : Nat → Nat → Bool} {cs : List (Nat × Nat)} {a : Act} {w : World} {c : Nat × Nat} (h : Inv w0 m a0 nI X (c :: cs) a w) : Inv w0 m a0 nI X cs a w :=
  ⟨h.1, fun p hp => h.2.1 p (List.mem_cons_of_mem _ hp), h.2.2⟩

variable {fs : Array Field} {f1 f2 : Field} {iR iB : TypeInfo} {zR zB : Value} {w0 : World} {m : ApM} {a0 : Act}

/-- the innermost loop: one bit -/
theorem x_loop (T : ApT P fs f1 f2 iR iB zR zB) (hD : ApD w0 m) (O : ApO r) (h0z : 152 ≤ a0.tmps.size) (hLs : m.L < 4611686018427387904) {rd i j : Nat} (hi : i < m.k) (hj : j < m.k) {X : Nat → Nat → Bool} {a : Act} {w : World} (hI : Inv w0 m a0 m.k X [(14, j), (13, i), (12, rd)] a w)
    (Q : Exit → Act → World → Prop) (hQ : ∀ a' w', Inv w0 m a0 m.k (cellF m i j X) [(14, j), (13, i), (12, rd)] a' w' → Q .normal a' w') : (lp r 27 28 29 10 11 90 (.region 30 (r 30) true)).wp P Q a w := by
  have h0 : 0 < m.k := by omega
  have hput : ∀ x a a' w d u, 14 < d → Puts a d u a' → Inv w0 m a0 m.k (itN (fun x X => bitF m i j x X) x X) [(14, j), (13, i), (12, rd)] a w → Inv w0 m a0 m.k (itN (fun x X => bitF m i j x X) x X) [(14, j), (13, i), (12, rd)] a' w := fun x a a' w d u hd hp hJ => hJ.put hp (by omega) (by
    intro p hp'; simp only [List.mem_cons, List.not_mem_nil, or_false] at hp'; rcases hp' with rfl | rfl | rfl <;> simp <;> omega)
  refine wp_seq (zero_wp O.z27 (by rw [hI.1.tsz]; omega) _ fun a1 p1 => ?_)
  show Code.wp _ _ _ a1 w
  refine for_wp (t := 90) (N := m.L) O.i29 (by decide) (by decide) hLs (fun x a w => Inv w0 m a0 m.k (itN (fun x X => bitF m i j x X) x X) [(14, j), (13, i), (12, rd)] a w) (fun _ _ => False) (fun x a w hJ => by rw [hJ.1.tsz]; omega) (fun x a a' w d u hd hp hJ => hput x a a' w d u (by omega) hp hJ) ?_ ?_ (hput 0 a a1 w 15 _ (by decide) p1 hI) p1.at Q (fun a' w' h => hQ a' w' h) (fun _ _ h => h.elim)
  · intro x hx a w hJ ec Q' hQ'
    obtain ⟨hA, hcs, bs, hS⟩ := hJ
    have hJ : Inv w0 m a0 m.k (itN (fun x X => bitF m i j x X) x X) [(14, j), (13, i), (12, rd)] a w := ⟨hA, hcs, bs, hS⟩
    have hz : 152 ≤ a.tmps.size := by rw [hA.tsz]; exact h0z
    obtain ⟨rA, hrow⟩ := hD.row0 i hi
    have e13 : a.eval (.tmp 13) = .int .i64 (i : Int) := hcs (13, i) (by simp)
    refine wp_region ?_
    rw [O.r28.s]
    show wpOps P _ Q' [0, 1, 2, 3, 4, 5, 6, 7] a w
    refine O.r28.p0.val (fun o ho => ex_move ho) ?_
    rw [ec]
    have p0 := puts a (d := 83) (.int .i64 (x : Int)) (by omega)
    generalize a.put (some 83) (.int .i64 (x : Int)) = b1 at p0 ⊢
    refine O.r28.p1.val (fun o ho => ex_field ho T.hD T.h1 T.c1 (by rw [p0.ne (by omega)]; exact hA.e7)) ?_
    rw [T.o1, Nat.zero_add]
    have p1 := puts b1 (d := 84) (.pointer (some ⟨m.bd, 256, none⟩)) (by rw [p0.size]; omega)
    generalize b1.put (some 84) (.pointer (some ⟨m.bd, 256, none⟩)) = b2 at p1 ⊢
    refine O.r28.p2.val (fun o ho => ex_load ho p1.at T.c25 T.a25 (hA.cell (hD.next h0) rfl)) ?_
    have p2 := puts b2 (d := 85) (.slice (some ⟨m.br, m.ob, none⟩) m.k m.nC) (by rw [p1.size, p0.size]; omega)
    generalize b2.put (some 85) (.slice (some ⟨m.br, m.ob, none⟩) m.k m.nC) = b3 at p2 ⊢
    refine O.r28.p3.val (fun o ho => ex_move ho) ?_
    rw [p2.ne (by omega), p1.ne (by omega), p0.ne (by omega), e13]
    have p3 := puts b3 (d := 86) (.int .i64 (i : Int)) (by rw [p2.size, p1.size, p0.size]; omega)
    generalize b3.put (some 86) (.int .i64 (i : Int)) = b4 at p3 ⊢
    refine O.r28.p4.val (fun o ho => ex_index ho T.u25 T.c33 hi (by rw [p3.ne (by omega)]; exact p2.at) p3.at) ?_
    rw [Nat.mul_one]
    have p4 := puts b4 (d := 87) (.pointer (some ⟨m.br, m.ob + i, none⟩)) (by rw [p3.size, p2.size, p1.size, p0.size]; omega)
    generalize b4.put (some 87) (.pointer (some ⟨m.br, m.ob + i, none⟩)) = b5 at p4 ⊢
    refine O.r28.p5.val (fun o ho => ex_load ho p4.at T.c33 T.a33 (hA.cell hrow rfl)) ?_
    have p5 := puts b5 (d := 88) (.slice rA m.L (m.rC i)) (by rw [p4.size, p3.size, p2.size, p1.size, p0.size]; omega)
    generalize b5.put (some 88) (.slice rA m.L (m.rC i)) = b6 at p5 ⊢
    refine O.r28.p6.val (fun o ho => ex_len ho (by show (some 33).bind P.underlying = _; exact T.u33) p5.at) ?_
    have p6 := puts b6 (d := 89) (.int .i64 (m.L : Int)) (by rw [p5.size, p4.size, p3.size, p2.size, p1.size, p0.size]; omega)
    generalize b6.put (some 89) (.int .i64 (m.L : Int)) = b7 at p6 ⊢
    refine O.r28.p7.val (fun o ho => ex_lss ho (by rw [p6.ne (by omega), p5.ne (by omega), p4.ne (by omega), p3.ne (by omega), p2.ne (by omega), p1.ne (by omega)]; exact p0.at) p6.at) ?_
    have p7 := puts b7 (d := 90) (.bool (decide ((x : Int) < (m.L : Int)))) (by rw [p6.size, p5.size, p4.size, p3.size, p2.size, p1.size, p0.size]; omega)
    generalize b7.put (some 90) (.bool (decide ((x : Int) < (m.L : Int)))) = b8 at p7 ⊢
    refine hQ' b8 ?_ ?_ p7.at
    · exact hput _ _ _ _ _ _ (by decide) p7 (hput _ _ _ _ _ _ (by decide) p6 (hput _ _ _ _ _ _ (by decide) p5 (hput _ _ _ _ _ _ (by decide) p4 (hput _ _ _ _ _ _ (by decide) p3 (hput _ _ _ _ _ _ (by decide) p2 (hput _ _ _ _ _ _ (by decide) p1 (hput _ _ _ _ _ _ (by decide) p0 hJ)))))))
    · rw [p7.ne (by omega), p6.ne (by omega), p5.ne (by omega), p4.ne (by omega), p3.ne (by omega), p2.ne (by omega), p1.ne (by omega), p0.ne (by omega)]; exact ec
  · intro x hx a w hJ ec Q' hQ' _
    obtain ⟨hA, hcs, bs, hS⟩ := hJ
    have e12 : a.eval (.tmp 12) = .int .i64 (rd : Int) := hcs (12, rd) (by simp)
    have e13 : a.eval (.tmp 13) = .int .i64 (i : Int) := hcs (13, i) (by simp)
    have e14 : a.eval (.tmp 14) = .int .i64 (j : Int) := hcs (14, j) (by simp)
    refine r30_wp T hD hA h0 (by rw [hA.tsz]; exact h0z) hi hj hx (by omega) rfl hS.mat hA.e7 hA.e9 e13 e14 ec O.r30 hS.new rfl Q' fun a' w' q1 q2 q3 => ?_
    refine hQ' a' w' ⟨q1, fun p hp => ?_, bs, q2⟩ ((q3 15 (by decide)).trans ec)
    simp only [List.mem_cons, List.not_mem_nil, or_false] at hp
    rcases hp with rfl | rfl | rfl
    · exact (q3 14 (by decide)).trans e14
    · exact (q3 13 (by decide)).trans e13
    · exact (q3 12 (by decide)).trans e12

theorem j_loop (T : ApT P fs f1 f2 iR iB zR zB) (hD : ApD w0 m) (O : ApO r) (h0z : 152 ≤ a0.tmps.size) (hLs : m.L < 4611686018427387904) {rd i : Nat} (hi : i < m.k) {X : Nat → Nat → Bool} {a : Act} {w : World} (hI : Inv w0 m a0 m.k X [(13, i), (12, rd)] a w)
    (Q : Exit → Act → World → Prop) (hQ : ∀ a' w', Inv w0 m a0 m.k (rowF m i X) [(13, i), (12, rd)] a' w' → Q .normal a' w') : (lp r 24 25 26 8 9 80 (lp r 27 28 29 10 11 90 (.region 30 (r 30) true))).wp P Q a w := by
  refine forH (N := m.k) O.z24 O.h25 O.i26 (by decide) rfl (by have := hD.small; omega) (fun j a w => Inv w0 m a0 m.k (itN (fun j X => cellF m i j X) j X) [(13, i), (12, rd)] a w) (fun _ _ => False) (fun x a w hJ => by rw [hJ.1.tsz]; exact h0z) (fun x a w hJ => hJ.1.e8)
    (fun x a a' w d u hd hp hJ => hJ.put hp (by omega) (by intro p hp'; simp only [List.mem_cons, List.not_mem_nil, or_false] at hp'; rcases hp' with rfl | rfl <;> simp <;> omega)) ?_ hI Q (fun a' w' h => hQ a' w' h) (fun _ _ h => h.elim)
  intro j hj a w hJ ec Q' hQ' _
  exact x_loop T hD O h0z hLs hi hj (hJ.add ec) Q' fun a' w' h => hQ' a' w' h.drop (h.2.1 (14, j) (by simp))
theorem i_loop (T : ApT P fs f1 f2 iR iB zR zB) (hD : ApD w0 m) (O : ApO r) (h0z : 152 ≤ a0.tmps.size) (hLs : m.L < 4611686018427387904) {rd : Nat} {X : Nat → Nat → Bool} {a : Act} {w : World} (hI : Inv w0 m a0 m.k X [(12, rd)] a w)
    (Q : Exit → Act → World → Prop) (hQ : ∀ a' w', Inv w0 m a0 m.k (roundF m X) [(12, rd)] a' w' → Q .normal a' w') : (lp r 21 22 23 6 7 75 (lp r 24 25 26 8 9 80 (lp r 27 28 29 10 11 90 (.region 30 (r 30) true)))).wp P Q a w := by
  refine forH (N := m.k) O.z21 O.h22 O.i23 (by decide) rfl (by have := hD.small; omega) (fun i a w => Inv w0 m a0 m.k (itN (fun i X => rowF m i X) i X) [(12, rd)] a w) (fun _ _ => False) (fun x a w hJ => by rw [hJ.1.tsz]; exact h0z) (fun x a w hJ => hJ.1.e8)
    (fun x a a' w d u hd hp hJ => hJ.put hp (by omega) (by intro p hp'; simp only [List.mem_cons, List.not_mem_nil, or_false] at hp'; rcases hp' with rfl; simp; omega)) ?_ hI Q (fun a' w' h => hQ a' w' h) (fun _ _ h => h.elim)
  intro i hi a w hJ ec Q' hQ' _
  exact j_loop T hD O h0z hLs hi (hJ.add ec) Q' fun a' w' h => hQ' a' w' h.drop (h.2.1 (13, i) (by simp))
theorem rd_loop (T : ApT P fs f1 f2 iR iB zR zB) (hD : ApD w0 m) (O : ApO r) (h0z : 152 ≤ a0.tmps.size) (hLs : m.L < 4611686018427387904) {X : Nat → Nat → Bool} {a : Act} {w : World} (hI : Inv w0 m a0 m.k X [] a w)
    (Q : Exit → Act → World → Prop) (hQ : ∀ a' w', Inv w0 m a0 m.k (allF m X) [] a' w' → Q .normal a' w') : (lp r 18 19 20 4 5 70 (lp r 21 22 23 6 7 75 (lp r 24 25 26 8 9 80 (lp r 27 28 29 10 11 90 (.region 30 (r 30) true))))).wp P Q a w := by
  refine forH (N := m.k) O.z18 O.h19 O.i20 (by decide) rfl (by have := hD.small; omega) (fun i a w => Inv w0 m a0 m.k (itN (fun _ X => roundF m X) i X) [] a w) (fun _ _ => False) (fun x a w hJ => by rw [hJ.1.tsz]; exact h0z) (fun x a w hJ => hJ.1.e8)
    (fun x a a' w d u hd hp hJ => hJ.put hp (by omega) (by intro p hp'; cases hp')) ?_ hI Q (fun a' w' h => hQ a' w' h) (fun _ _ h => h.elim)
  intro i hi a w hJ ec Q' hQ' _
  exact i_loop T hD O h0z hLs (hJ.add ec) Q' fun a' w' h => hQ' a' w' h.drop (h.2.1 (12, i) (by simp))
end
end Go.Ab

/- LeastApart: all of its own text. -/
namespace Go.Ab
open Go
set_option linter.unusedVariables false
set_option linter.unusedSimpArgs false
set_option maxRecDepth 4000

/-- what is left at the end -/
structure ApF (w0 : World) (a0 : Act) (v : Bool) (a : Act) (w : World) : Prop where
  tsz : a.tmps.size = a0.tmps.size
  df : a.defers = a0.defers
  e6 : a.eval (.tmp 6) = .bool v
  size : w0.heap.size ≤ w.heap.size
  os : w.os = w0.os
  tape : w.tape = w0.tape
  output : w.output = w0.output
  old : ∀ c, c < w0.heap.size → w.heap[c]? = w0.heap[c]?

section
variable {P : Program} {r : Nat → Array Oper}
variable {fs : Array Field} {f1 f2 : Field} {iR iB : TypeInfo} {zR zB : Value} {w0 : World} {m : ApM} {a0 : Act}

/-- rows are made and filled -/
theorem mk_loop (T : ApT P fs f1 f2 iR iB zR zB) (hD : ApD w0 m) (O : ApO r) (h0z : 152 ≤ a0.tmps.size) {X : Nat → Nat → Bool} {a : Act} {w : World} (hI : Inv w0 m a0 0 X [] a w)
    (Q : Exit → Act → World → Prop) (hQ : ∀ a' w', Inv w0 m a0 m.k (fun p q => m.E p != m.E q) [] a' w' → Q .normal a' w') : (lp r 10 11 12 0 1 38 (.seq (.region 13 (r 13) false) (lp r 14 15 16 2 3 48 (.region 17 (r 17) true)))).wp P Q a w := by
  refine forH (N := m.k) O.z10 O.h11 O.i12 (by decide) rfl (by have := hD.small; omega) (fun i a w => ∃ X, Inv w0 m a0 i X [] a w ∧ ∀ p q, q < m.k → p < i → X p q = (m.E p != m.E q)) (fun _ _ => False) (fun x a w hJ => by obtain ⟨_, hJ, _⟩ := hJ; rw [hJ.1.tsz]; exact h0z) (fun x a w hJ => by obtain ⟨_, hJ, _⟩ := hJ; exact hJ.1.e8)
    (fun x a a' w d u hd hp hJ => by obtain ⟨X, hJ, h⟩ := hJ; exact ⟨X, hJ.put hp (by omega) (by intro p hp'; cases hp'), h⟩) ?_ ⟨X, hI, fun p q _ h => by omega⟩ Q (fun a' w' h => ?_) (fun _ _ h => h.elim)
  · intro i hi a w hJ ec Q' hQ' _
    obtain ⟨X, ⟨hA, _, bs, hS⟩, hX⟩ := hJ
    have hz : 152 ≤ a.tmps.size := by rw [hA.tsz]; exact h0z
    have h0 : 0 < m.k := by omega
    refine wp_seq (wp_region ?_)
    rw [O.r13.s]
    show wpOps P _ _ [0, 1, 2, 3, 4, 5] a w
    refine O.r13.p0.val (fun o ho => ex_move ho) ?_
    rw [hA.e9]
    have p0 := puts a (d := 41) (.slice (some ⟨w0.heap.size, 0, none⟩) m.k m.k) (by omega)
    generalize a.put (some 41) (.slice (some ⟨w0.heap.size, 0, none⟩) m.k m.k) = b1 at p0 ⊢
    refine O.r13.p1.val (fun o ho => ex_move ho) ?_
    rw [p0.ne (by omega), ec]
    have p1 := puts b1 (d := 42) (.int .i64 (i : Int)) (by rw [p0.size]; omega)
    generalize b1.put (some 42) (.int .i64 (i : Int)) = b2 at p1 ⊢
    refine O.r13.p2.val (fun o ho => ex_move ho) ?_
    rw [p1.ne (by omega), p0.ne (by omega), hA.e8]
    have p2 := puts b2 (d := 43) (.int .i64 (m.k : Int)) (by rw [p1.size, p0.size]; omega)
    generalize b2.put (some 43) (.int .i64 (m.k : Int)) = b3 at p2 ⊢
    have hsm := hD.small
    refine O.r13.p3.val (fun o ho => ex_make ho T.u26 T.nfB T.nzB p2.at (by
      have : (iB.bytes : Int) * (m.k : Int) ≤ 4096 * (m.k : Int) := Int.mul_le_mul_of_nonneg_right (by have := T.zBb; omega) (by omega)
      omega) (by omega)) ?_
    rw [T.zBc, T.zBs, Nat.mul_one]
    have p3 := puts b3 (d := 44) (.slice (some ⟨w.heap.size, 0, none⟩) m.k m.k) (by rw [p2.size, p1.size, p0.size]; omega)
    generalize b3.put (some 44) (.slice (some ⟨w.heap.size, 0, none⟩) m.k m.k) = b4 at p3 ⊢
    refine O.r13.p4.val (fun o ho => ex_index ho T.u42 T.c26 hi (by rw [p3.ne (by omega), p2.ne (by omega), p1.ne (by omega)]; exact p0.at) (by rw [p3.ne (by omega), p2.ne (by omega)]; exact p1.at)) ?_
    have p4 := puts b4 (d := 45) (.pointer (some ⟨w0.heap.size, 0 + i * 1, none⟩)) (by rw [p3.size, p2.size, p1.size, p0.size]; omega)
    generalize b4.put (some 45) (.pointer (some ⟨w0.heap.size, 0 + i * 1, none⟩)) = b5 at p4 ⊢
    obtain ⟨w1, s1, s2, s3, s4, s5, s6, s7⟩ := hS.mat.addrow (P := P) hi T.c26 (rfl : madeCells #[Value.bool false] m.k = _)
    refine O.r13.p5.skip (fun o ho => s1 _ o _ _ ho p4.at (by rw [p4.ne (by omega)]; exact p3.at)) ?_
    have hput0 : (b5.put none undef) = b5 := rfl
    rw [hput0]
    show Code.wp _ _ _ b5 w1
    have hA1 : Api w0 m a0 b5 w1 := by
      have h1 := ((((hA.put p0 (by omega)).put p1 (by omega)).put p2 (by omega)).put p3 (by omega)).put p4 (by omega)
      exact ⟨h1.tsz, h1.df, h1.e7, h1.e8, h1.e9, by rw [s3]; have := hA.size; omega, s5.trans hA.os, s6.trans hA.tape, s7.trans hA.output, fun c hc => by rw [s4 c (by omega) (by have := hA.size; omega)]; exact hA.old c hc⟩
    have hob : w0.heap.size < w.heap.size := by
      obtain ⟨hs, g1, _⟩ := hS.mat.out
      exact heap_lt g1
    have hS1 : Sq w0 m.k (i + 1) (fun p => if p = i then w.heap.size else bs p) (fun p q => if p = i then false else X p q) w1 := ⟨s2, fun p hp => by
      by_cases h : p = i
      · simp only [h, if_true]; exact hob
      · simp only [h, if_false]; exact hS.new p (by omega)⟩
    have ec1 : b5.eval (.tmp 10) = .int .i64 (i : Int) := by rw [p4.ne (by omega), p3.ne (by omega), p2.ne (by omega), p1.ne (by omega), p0.ne (by omega)]; exact ec
    refine forH (N := m.k) O.z14 O.h15 O.i16 (by decide) rfl (by omega) (fun j a w => ∃ X, Inv w0 m a0 (i + 1) X [(10, i)] a w ∧ ∀ p q, q < m.k → (p < i ∨ p = i ∧ q < j) → X p q = (m.E p != m.E q)) (fun _ _ => False) (fun x a w hJ => by obtain ⟨_, hJ, _⟩ := hJ; rw [hJ.1.tsz]; exact h0z) (fun x a w hJ => by obtain ⟨_, hJ, _⟩ := hJ; exact hJ.1.e8)
      (fun x a a' w d u hd hp hJ => by obtain ⟨X, hJ, h⟩ := hJ; exact ⟨X, hJ.put hp (by omega) (by intro p hp'; simp only [List.mem_cons, List.not_mem_nil, or_false] at hp'; rcases hp' with rfl; simp; omega), h⟩) ?_
      ⟨_, ⟨hA1, fun p hp => by simp only [List.mem_cons, List.not_mem_nil, or_false] at hp; rcases hp with rfl; exact ec1, _, hS1⟩, fun p q hq hp => by
        rcases hp with hp | hp
        · rw [if_neg (by omega)]; exact hX p q hq hp
        · omega⟩ _ (fun a' w' h => ?_) (fun _ _ h => h.elim)
    · intro j hj a w hJ ec Q2 hQ2 _
      obtain ⟨X, ⟨hA, hcs, bs, hS⟩, hX⟩ := hJ
      have e10 : a.eval (.tmp 10) = .int .i64 (i : Int) := hcs (10, i) (by simp)
      refine r17_wp T hD hA h0 (by rw [hA.tsz]; exact h0z) hi hj (Nat.lt_succ_self i) hS.mat hA.e7 hA.e9 e10 ec O.r17 hS.new rfl Q2 fun a' w' q1 q2 q3 => ?_
      refine hQ2 a' w' ⟨_, ⟨q1, fun p hp => ?_, bs, q2⟩, fun p q hq hp => ?_⟩ ((q3 11 (by decide)).trans ec)
      · simp only [List.mem_cons, List.not_mem_nil, or_false] at hp
        rcases hp with rfl
        exact (q3 10 (by decide)).trans e10
      · unfold updM
        by_cases h : p = i ∧ q = j
        · rw [if_pos h, h.1, h.2]
        · rw [if_neg h]; exact hX p q hq (by omega)
    · obtain ⟨X', hJ, hX'⟩ := h
      exact hQ' a' w' ⟨X', hJ.drop, fun p q hq hp => hX' p q hq (by omega)⟩ (hJ.2.1 (10, i) (by simp))
  · obtain ⟨X', ⟨hA, hcs, bs, hS⟩, hX'⟩ := h
    exact hQ a' w' ⟨hA, hcs, bs, hS.mat.congr (fun i j hi hj => hX' i j hj hi), hS.new⟩

/-- is it as it should be? -/
theorem ck_loop (T : ApT P fs f1 f2 iR iB zR zB) (hD : ApD w0 m) (O : ApO r) (h0z : 152 ≤ a0.tmps.size) {X : Nat → Nat → Bool} {a : Act} {w : World} (hI : Inv w0 m a0 m.k X [] a w)
    (Q : Exit → Act → World → Prop) (hQ : ∀ a' w', Inv w0 m a0 m.k X [] a' w' → (∀ p q, p < m.k → q < m.k → X p q = !(decide (p = q))) → Q .normal a' w')
    (hR : ∀ a' w', ApF w0 a0 false a' w' → (∃ p q, p < m.k ∧ q < m.k ∧ X p q ≠ !(decide (p = q))) → Q .ret a' w') :
    (lp r 31 32 33 12 13 131 (lp r 34 35 36 14 15 136 (.seq (.region 37 (r 37) false) (.cond (.tmp 149) (.seq (.region 38 (r 38) false) .ret) .skip)))).wp P Q a w := by
  refine forH (N := m.k) O.z31 O.h32 O.i33 (by decide) rfl (by have := hD.small; omega) (fun i a w => Inv w0 m a0 m.k X [] a w ∧ ∀ p q, q < m.k → p < i → X p q = !(decide (p = q))) (fun a' w' => ApF w0 a0 false a' w' ∧ ∃ p q, p < m.k ∧ q < m.k ∧ X p q ≠ !(decide (p = q))) (fun x a w hJ => by rw [hJ.1.1.tsz]; exact h0z) (fun x a w hJ => hJ.1.1.e8)
    (fun x a a' w d u hd hp hJ => ⟨hJ.1.put hp (by omega) (by intro p hp'; cases hp'), hJ.2⟩) ?_ ⟨hI, fun p q _ h => by omega⟩ Q (fun a' w' h => hQ a' w' h.1 fun p q hp hq => h.2 p q hq hp) (fun a' w' h => hR a' w' h.1 h.2)
  intro i hi a w hJ ec Q' hQ' hR'
  obtain ⟨hJ, hX⟩ := hJ
  refine forH (N := m.k) O.z34 O.h35 O.i36 (by decide) rfl (by have := hD.small; omega) (fun j a w => Inv w0 m a0 m.k X [(16, i)] a w ∧ ∀ p q, q < m.k → (p < i ∨ p = i ∧ q < j) → X p q = !(decide (p = q))) (fun a' w' => ApF w0 a0 false a' w' ∧ ∃ p q, p < m.k ∧ q < m.k ∧ X p q ≠ !(decide (p = q))) (fun x a w hJ => by rw [hJ.1.1.tsz]; exact h0z) (fun x a w hJ => hJ.1.1.e8)
    (fun x a a' w d u hd hp hJ => ⟨hJ.1.put hp (by omega) (by intro p hp'; simp only [List.mem_cons, List.not_mem_nil, or_false] at hp'; rcases hp' with rfl; simp; omega), hJ.2⟩) ?_ ⟨hJ.add ec, fun p q hq hp => hX p q hq (by omega)⟩ Q' (fun a' w' h => hQ' a' w' ⟨h.1.drop, fun p q hq hp => h.2 p q hq (by omega)⟩ (h.1.2.1 (16, i) (by simp))) hR'
  intro j hj a w hJ ec2 Q2 hQ2 hR2
  obtain ⟨⟨hA, hcs, bs, hS⟩, hX⟩ := hJ
  have hz : 152 ≤ a.tmps.size := by rw [hA.tsz]; exact h0z
  have e16 : a.eval (.tmp 16) = .int .i64 (i : Int) := hcs (16, i) (by simp)
  refine wp_seq (wp_region ?_)
  rw [O.r37.s]
  show wpOps P _ _ [0, 1, 2, 3, 4, 5, 6, 7, 8, 9, 10] a w
  refine O.r37.p0.val (fun o ho => ex_move ho) ?_
  rw [hA.e9]
  have p0 := puts a (d := 139) (.slice (some ⟨w0.heap.size, 0, none⟩) m.k m.k) (by omega)
  generalize a.put (some 139) (.slice (some ⟨w0.heap.size, 0, none⟩) m.k m.k) = b1 at p0 ⊢
  refine O.r37.p1.val (fun o ho => ex_move ho) ?_
  rw [p0.ne (by omega), e16]
  have p1 := puts b1 (d := 140) (.int .i64 (i : Int)) (by rw [p0.size]; omega)
  generalize b1.put (some 140) (.int .i64 (i : Int)) = b2 at p1 ⊢
  refine O.r37.p2.val (fun o ho => ex_index ho T.u42 T.c26 hi (by rw [p1.ne (by omega)]; exact p0.at) p1.at) ?_
  have p2 := puts b2 (d := 141) (.pointer (some ⟨w0.heap.size, 0 + i * 1, none⟩)) (by rw [p1.size, p0.size]; omega)
  generalize b2.put (some 141) (.pointer (some ⟨w0.heap.size, 0 + i * 1, none⟩)) = b3 at p2 ⊢
  refine O.r37.p3.val (fun o ho => ex_load ho p2.at T.c26 T.a26 (hS.mat.hdr' hi)) ?_
  have p3 := puts b3 (d := 142) (.slice (some ⟨bs i, 0, none⟩) m.k m.k) (by rw [p2.size, p1.size, p0.size]; omega)
  generalize b3.put (some 142) (.slice (some ⟨bs i, 0, none⟩) m.k m.k) = b4 at p3 ⊢
  refine O.r37.p4.val (fun o ho => ex_move ho) ?_
  rw [p3.ne (by omega), p2.ne (by omega), p1.ne (by omega), p0.ne (by omega), ec2]
  have p4 := puts b4 (d := 143) (.int .i64 (j : Int)) (by rw [p3.size, p2.size, p1.size, p0.size]; omega)
  generalize b4.put (some 143) (.int .i64 (j : Int)) = b5 at p4 ⊢
  refine O.r37.p5.val (fun o ho => ex_index ho T.u26 T.c4 hj (by rw [p4.ne (by omega)]; exact p3.at) p4.at) ?_
  have p5 := puts b5 (d := 144) (.pointer (some ⟨bs i, 0 + j * 1, none⟩)) (by rw [p4.size, p3.size, p2.size, p1.size, p0.size]; omega)
  generalize b5.put (some 144) (.pointer (some ⟨bs i, 0 + j * 1, none⟩)) = b6 at p5 ⊢
  refine O.r37.p6.val (fun o ho => ex_load ho p5.at T.c4 T.a4 (hS.mat.bit' hi hj)) ?_
  have p6 := puts b6 (d := 145) (.bool (X i j)) (by rw [p5.size, p4.size, p3.size, p2.size, p1.size, p0.size]; omega)
  generalize b6.put (some 145) (.bool (X i j)) = b7 at p6 ⊢
  refine O.r37.p7.val (fun o ho => ex_move ho) ?_
  rw [p6.ne (by omega), p5.ne (by omega), p4.ne (by omega), p3.ne (by omega), p2.ne (by omega), p1.ne (by omega), p0.ne (by omega), e16]
  have p7 := puts b7 (d := 146) (.int .i64 (i : Int)) (by rw [p6.size, p5.size, p4.size, p3.size, p2.size, p1.size, p0.size]; omega)
  generalize b7.put (some 146) (.int .i64 (i : Int)) = b8 at p7 ⊢
  refine O.r37.p8.val (fun o ho => ex_move ho) ?_
  rw [p7.ne (by omega), p6.ne (by omega), p5.ne (by omega), p4.ne (by omega), p3.ne (by omega), p2.ne (by omega), p1.ne (by omega), p0.ne (by omega), ec2]
  have p8 := puts b8 (d := 147) (.int .i64 (j : Int)) (by rw [p7.size, p6.size, p5.size, p4.size, p3.size, p2.size, p1.size, p0.size]; omega)
  generalize b8.put (some 147) (.int .i64 (j : Int)) = b9 at p8 ⊢
  refine O.r37.p9.val (fun o ho => ex_neqi ho (by rw [p8.ne (by omega)]; exact p7.at) p8.at) ?_
  have hij : (decide ((i : Int) = (j : Int))) = decide (i = j) := by
    by_cases h : i = j
    · rw [decide_eq_true h, decide_eq_true (by omega)]
    · rw [decide_eq_false h, decide_eq_false (by omega)]
  rw [hij]
  have p9 := puts b9 (d := 148) (.bool (!(decide (i = j)))) (by rw [p8.size, p7.size, p6.size, p5.size, p4.size, p3.size, p2.size, p1.size, p0.size]; omega)
  generalize b9.put (some 148) (.bool (!(decide (i = j)))) = b10 at p9 ⊢
  refine O.r37.p10.val (fun o ho => ex_neqb ho T.u4 (by rw [p9.ne (by omega), p8.ne (by omega), p7.ne (by omega)]; exact p6.at) p9.at) ?_
  have p10 := puts b10 (d := 149) (.bool (X i j != !(decide (i = j)))) (by rw [p9.size, p8.size, p7.size, p6.size, p5.size, p4.size, p3.size, p2.size, p1.size, p0.size]; omega)
  generalize b10.put (some 149) (.bool (X i j != !(decide (i = j)))) = b11 at p10 ⊢
  have hA1 : Api w0 m a0 b11 w := ((((((((((hA.put p0 (by omega)).put p1 (by omega)).put p2 (by omega)).put p3 (by omega)).put p4 (by omega)).put p5 (by omega)).put p6 (by omega)).put p7 (by omega)).put p8 (by omega)).put p9 (by omega)).put p10 (by omega)
  have k16 : b11.eval (.tmp 16) = .int .i64 (i : Int) := by rw [p10.ne (by omega), p9.ne (by omega), p8.ne (by omega), p7.ne (by omega), p6.ne (by omega), p5.ne (by omega), p4.ne (by omega), p3.ne (by omega), p2.ne (by omega), p1.ne (by omega), p0.ne (by omega)]; exact e16
  have k17 : b11.eval (.tmp 17) = .int .i64 (j : Int) := by rw [p10.ne (by omega), p9.ne (by omega), p8.ne (by omega), p7.ne (by omega), p6.ne (by omega), p5.ne (by omega), p4.ne (by omega), p3.ne (by omega), p2.ne (by omega), p1.ne (by omega), p0.ne (by omega)]; exact ec2
  show Code.wp _ _ _ b11 w
  cases hb : (X i j != !(decide (i = j))) with
  | true =>
    refine wp_cond_true (p10.at.trans (by rw [hb])) (wp_seq (wp_region ?_))
    rw [O.r38.s]
    show wpOps P _ _ [0] b11 w
    refine O.r38.p0.val (fun o ho => ex_assign ho) ?_
    rw [ev_const]
    have p11 := puts b11 (d := 6) (.bool false) (by rw [hA1.tsz]; omega)
    generalize b11.put (some 6) (.bool false) = b12 at p11 ⊢
    refine wp_ret (hR2 b12 w ⟨⟨p11.size.trans hA1.tsz, p11.df.trans hA1.df, p11.at, hA1.size, hA1.os, hA1.tape, hA1.output, hA1.old⟩, i, j, hi, hj, ?_⟩)
    intro hh; rw [hh] at hb; simp at hb
  | false =>
    refine wp_cond_false (p10.at.trans (by rw [hb])) (wp_skip ?_)
    refine hQ2 b11 w ⟨⟨hA1, fun p hp => by simp only [List.mem_cons, List.not_mem_nil, or_false] at hp; rcases hp with rfl; exact k16, bs, hS⟩, fun p q hq hp => ?_⟩ k17
    by_cases h : p = i ∧ q = j
    · rw [h.1, h.2]; exact (bne_eq_false_iff_eq.1 hb)
    · exact hX p q hq (by omega)

/-- the whole of it -/
theorem apart_wp (T : ApT P fs f1 f2 iR iB zR zB) (hD : ApD w0 m) (O : ApO r) (h0z : 152 ≤ a0.tmps.size) (hLs : m.L < 4611686018427387904) (e7 : a0.eval (.tmp 7) = .pointer (some ⟨m.bd, 0, none⟩)) :
    (apCode r).wp P (fun e a' w' => e = .ret ∧ ApF w0 a0 (apartB m) a' w') a0 w0 := by
  obtain ⟨nA, hnx⟩ := hD.next0
  have hsm := hD.small
  refine wp_seq (wp_region ?_)
  rw [O.r8.s]
  show wpOps P _ _ [0, 1, 2, 3] a0 w0
  refine O.r8.p0.val (fun o ho => ex_field ho T.hD T.h1 T.c1 e7) ?_
  rw [T.o1, Nat.zero_add]
  have p0 := puts a0 (d := 31) (.pointer (some ⟨m.bd, 256, none⟩)) (by omega)
  generalize a0.put (some 31) (.pointer (some ⟨m.bd, 256, none⟩)) = b1 at p0 ⊢
  refine O.r8.p1.val (fun o ho => ex_load ho p0.at T.c25 T.a25 hnx) ?_
  have p1 := puts b1 (d := 32) (.slice nA m.k m.nC) (by rw [p0.size]; omega)
  generalize b1.put (some 32) (.slice nA m.k m.nC) = b2 at p1 ⊢
  refine O.r8.p2.val (fun o ho => ex_len ho (by show (some 25).bind P.underlying = _; exact T.u25) p1.at) ?_
  have p2 := puts b2 (d := 33) (.int .i64 (m.k : Int)) (by rw [p1.size, p0.size]; omega)
  generalize b2.put (some 33) (.int .i64 (m.k : Int)) = b3 at p2 ⊢
  refine O.r8.p3.val (fun o ho => ex_assign ho) ?_
  rw [p2.at]
  have p3 := puts b3 (d := 8) (.int .i64 (m.k : Int)) (by rw [p2.size, p1.size, p0.size]; omega)
  generalize b3.put (some 8) (.int .i64 (m.k : Int)) = b4 at p3 ⊢
  have z4 : b4.tmps.size = a0.tmps.size := by rw [p3.size, p2.size, p1.size, p0.size]
  have d4 : b4.defers = a0.defers := by rw [p3.df, p2.df, p1.df, p0.df]
  show Code.wp _ _ _ b4 w0
  refine wp_seq (wp_region ?_)
  rw [O.r9.s]
  show wpOps P _ _ [0, 1, 2] b4 w0
  refine O.r9.p0.val (fun o ho => ex_move ho) ?_
  rw [p3.at]
  have p4 := puts b4 (d := 34) (.int .i64 (m.k : Int)) (by omega)
  generalize b4.put (some 34) (.int .i64 (m.k : Int)) = b5 at p4 ⊢
  refine O.r9.p1.val (fun o ho => ex_make ho T.u42 T.nfR T.nzR p4.at (by
    have : (iR.bytes : Int) * (m.k : Int) ≤ 4096 * (m.k : Int) := Int.mul_le_mul_of_nonneg_right (by have := T.zRb; omega) (by omega)
    omega) (by omega)) ?_
  rw [T.zRc, T.zRs, Nat.mul_one]
  have p5 := puts b5 (d := 35) (.slice (some ⟨w0.heap.size, 0, none⟩) m.k m.k) (by rw [p4.size]; omega)
  generalize b5.put (some 35) (.slice (some ⟨w0.heap.size, 0, none⟩) m.k m.k) = b6 at p5 ⊢
  refine O.r9.p2.val (fun o ho => ex_assign ho) ?_
  rw [p5.at]
  have p6 := puts b6 (d := 9) (.slice (some ⟨w0.heap.size, 0, none⟩) m.k m.k) (by rw [p5.size, p4.size]; omega)
  generalize b6.put (some 9) (.slice (some ⟨w0.heap.size, 0, none⟩) m.k m.k) = b7 at p6 ⊢
  obtain ⟨hs, hhs⟩ : ∃ hs, hs = madeCells #[Value.slice none 0 0] m.k := ⟨_, rfl⟩
  rw [← hhs]
  have hhs1 : hs.size = m.k := by rw [hhs]; simp [madeCells]
  obtain ⟨wm, hwm⟩ : ∃ wm, wm = w0.alloc (.cells hs 26) := ⟨_, rfl⟩
  rw [← hwm]
  have hwm1 : ∀ c, c < w0.heap.size → wm.heap[c]? = w0.heap[c]? := fun c hc => by rw [hwm]; exact push_lt hc
  have hwm2 : wm.heap[w0.heap.size]? = some (.cells hs 26 (0, 0)) := by rw [hwm]; exact push_eq
  have hwm3 : wm.heap.size = w0.heap.size + 1 := by rw [hwm]; show (w0.heap.push _).size = _; simp
  show Code.wp _ _ _ b7 wm
  have hA : Api w0 m a0 b7 wm := ⟨by rw [p6.size, p5.size, p4.size, z4], by rw [p6.df, p5.df, p4.df, d4], by rw [p6.ne (by omega), p5.ne (by omega), p4.ne (by omega), p3.ne (by omega), p2.ne (by omega), p1.ne (by omega), p0.ne (by omega)]; exact e7, by rw [p6.ne (by omega), p5.ne (by omega), p4.ne (by omega)]; exact p3.at, p6.at, by omega, by rw [hwm]; rfl, by rw [hwm]; rfl, by rw [hwm]; rfl, hwm1⟩
  have hI0 : Inv w0 m a0 0 (fun _ _ => false) [] b7 wm := ⟨hA, (fun p hp => by cases hp), fun _ => 0, ⟨⟨hs, hwm2, hhs1, fun i hi => by omega⟩, (fun i hi => by omega), (fun i j hi => by omega), fun i hi => by omega⟩, fun i hi => by omega⟩
  refine wp_seq (mk_loop T hD O h0z hI0 _ fun a1 w1 h1 => ?_)
  show Code.wp _ _ _ a1 w1
  refine wp_seq (rd_loop T hD O h0z hLs h1 _ fun a2 w2 h2 => ?_)
  show Code.wp _ _ _ a2 w2
  refine wp_seq (ck_loop T hD O h0z h2 _ (fun a3 w3 h3 h3x => ?_) fun a3 w3 h3 hx => ?_)
  · show Code.wp _ _ _ a3 w3
    refine wp_seq (wp_region ?_)
    rw [O.r39.s]
    show wpOps P _ _ [0, 1, 2] a3 w3
    have z3 : 152 ≤ a3.tmps.size := by rw [h3.1.tsz]; exact h0z
    refine O.r39.p0.val (fun o ho => ex_move ho) ?_
    rw [h3.1.e8]
    have q0 := puts a3 (d := 150) (.int .i64 (m.k : Int)) (by omega)
    generalize a3.put (some 150) (.int .i64 (m.k : Int)) = c1 at q0 ⊢
    refine O.r39.p1.val (fun o ho => ex_gtr ho q0.at (ev_const c1 _)) ?_
    have q1 := puts c1 (d := 151) (.bool (decide ((0 : Int) < (m.k : Int)))) (by rw [q0.size]; omega)
    generalize c1.put (some 151) (.bool (decide ((0 : Int) < (m.k : Int)))) = c2 at q1 ⊢
    refine O.r39.p2.val (fun o ho => ex_assign ho) ?_
    rw [q1.at]
    have q2 := puts c2 (d := 6) (.bool (decide ((0 : Int) < (m.k : Int)))) (by rw [q1.size, q0.size]; omega)
    generalize c2.put (some 6) (.bool (decide ((0 : Int) < (m.k : Int)))) = c3 at q2 ⊢
    refine wp_ret ⟨rfl, ⟨by rw [q2.size, q1.size, q0.size, h3.1.tsz], by rw [q2.df, q1.df, q0.df, h3.1.df], ?_, h3.1.size, h3.1.os, h3.1.tape, h3.1.output, h3.1.old⟩⟩
    rw [q2.at]
    have : apartB m = decide ((0 : Int) < (m.k : Int)) := by
      unfold apartB
      rw [show ((List.range m.k).all fun i => (List.range m.k).all fun j => apartX m i j == !(decide (i = j))) = true from by
        rw [List.all_eq_true]; intro i hi
        rw [List.all_eq_true]; intro j hj
        rw [List.mem_range] at hi hj
        have := h3x i j hi hj
        unfold apartX
        rw [this]; simp]
      rw [Bool.true_and]
      by_cases h : 0 < m.k
      · rw [decide_eq_true h, decide_eq_true (by omega)]
      · rw [decide_eq_false h, decide_eq_false (by omega)]
    rw [this]
  · refine ⟨rfl, ?_⟩
    have : apartB m = false := by
      obtain ⟨p, q, hp, hq, hne⟩ := hx
      unfold apartB
      rw [Bool.and_eq_false_iff]
      left
      rw [List.all_eq_false]
      refine ⟨p, List.mem_range.2 hp, ?_⟩
      rw [Bool.not_eq_true, List.all_eq_false]
      refine ⟨q, List.mem_range.2 hq, ?_⟩
      simpa [apartX] using hne
    rw [this]; exact h3
end
end Go.Ab

/- LeastApart: its own text, as a piece between the interpreter's. -/
namespace Go.Ab
open Go
set_option linter.unusedVariables false
set_option linter.unusedSimpArgs false
set_option maxRecDepth 4000

/-- the machine that rows and ends are -/
def pm (rows : List (List Int)) (ends : List Bool) : ApM := ⟨0, rows.length, (rows.headD []).length, 0, 0, 0, 0, 0, 0, fun _ => 0, fun _ => 0, fun _ => 0, fun i x => ((rows.getD i []).getD x 0).toNat, fun i => ends.getD i false⟩
def apG (rows : List (List Int)) (ends : List Bool) : Bool :=
  decide (rows.length = ends.length) && (decide (rows.length < 17179869184) && (decide ((rows.headD []).length < 17179869184) && rows.all fun l => decide (l.length = (rows.headD []).length) && l.all fun k => decide (0 ≤ k) && decide (k < (rows.length : Int))))
def apartP (rows : List (List Int)) (ends : List Bool) : Bool := apartB (pm rows ends)
theorem apartB_pm {rows : List (List Int)} {ends : List Bool} {bd br ob be oe nC eC : Nat} {rb ro rC : Nat → Nat} : apartB ⟨bd, rows.length, (rows.headD []).length, br, ob, be, oe, nC, eC, rb, ro, rC, fun i x => ((rows.getD i []).getD x 0).toNat, fun i => ends.getD i false⟩ = apartP rows ends := rfl

def esApart (cls : List Int) (rows : List (List Int)) (ends : List Bool) : List Ent :=
  [.box (.st [.arr 256 (.int .u8) cls, .own TI 1, .own .bool 2]) false, .buf TI rows false, .buf .bool ends false]
def stApart (M : Nat) (es : List Ent) (v : Bool) : St := ⟨(List.replicate M S.junk).set 6 (.bool v), tbOf es, 2, 0⟩

theorem good_apart {R : Type} {C : Ctx} {r : Nat → Array Oper} {fs : Array Field} {f1 f2 : Field} {iR iB : TypeInfo} {zR zB : Value} (T : ApT C.P fs f1 f2 iR iB zR zB) (O : ApO r) {M : Nat} (hM : 152 ≤ M) {cls : List Int} {rows : List (List Int)} {ends : List Bool} {K : Out → St → Option R} {r0 : R}
    (hg : apG rows ends = true) (hK : K .ret (stApart M (esApart cls rows ends) (apartP rows ends)) = some r0) : Good C (apCode r) (placeSt M 0 [7] [.ptr 0 []] (esApart cls rows ends)) K r0 := by
  unfold apG at hg
  simp only [Bool.and_eq_true, List.all_eq_true, decide_eq_true_eq] at hg
  obtain ⟨hlen, hsm, hL, hin⟩ := hg
  refine ⟨.ret, _, hK, fun hep hnp E w0 own0 a w hgl hR => ?_⟩
  have hsize : a.tmps.size = M := by rw [← hR.size]; simp [placeSt, placeL_len]
  have hsl7 : (placeSt M 0 [7] [.ptr 0 []] (esApart cls rows ends)).sl.getD 7 .junk = .ptr 0 [] := by
    show (((List.replicate M S.junk).set 7 (.ptr 0 [])).getD 7 .junk) = _
    rw [List.getD_eq_getElem?_getD, List.getElem?_set_self (by simp; omega)]; rfl
  have q1 := hR.slot 7
  rw [hsl7, relV_scalar rfl] at q1
  have q2 := hR.ent 0 _ (show (tbOf (esApart cls rows ends)) 0 = some _ from rfl)
  have q3 := hR.ent 1 _ (show (tbOf (esApart cls rows ends)) 1 = some _ from rfl)
  have q4 := hR.ent 2 _ (show (tbOf (esApart cls rows ends)) 2 = some _ from rfl)
  have q1 : True ∧ ∃ b o, E.κ 0 = some (b, o) ∧ [a.tmps.getD 7 undef] = [.pointer (some ⟨b, o + 0, none⟩)] := q1
  obtain ⟨_, bd, od, hκ, q1⟩ := q1
  obtain ⟨bd', cs, hκ', hbd, hlies, hrel, _, _, hnav⟩ := q2
  rw [hκ] at hκ'; cases hκ'
  have e7 : a.eval (.tmp 7) = .pointer (some ⟨bd, 0, none⟩) := (List.cons.inj q1).1
  have hrel : ∃ c1 c2, cs = c1 ++ c2 ∧ Rt w (E.ok _) (.arr 256 (.int .u8)) c1 cls ∧ ∃ c3 c4, c2 = c3 ++ c4 ∧ (∃ ad cap, c3 = [.slice ad rows.length cap] ∧ rows.length ≤ cap ∧ match E.κ 1 with
      | some (b, o) => ad = some ⟨b, o, none⟩ ∧ _ ∧ cap ≤ CAPM
      | none => cap = 0) ∧ ∃ c5 c6, c4 = c5 ++ c6 ∧ (∃ ad cap, c5 = [.slice ad ends.length cap] ∧ ends.length ≤ cap ∧ match E.κ 2 with
      | some (b, o) => ad = some ⟨b, o, none⟩ ∧ _ ∧ cap ≤ CAPM
      | none => cap = 0) ∧ _ := hrel
  obtain ⟨c1, c2, rfl, r1, c3, c4, rfl, ⟨nA, nC, rfl, hc1, hn⟩, c5, c6, rfl, ⟨eA, eC, rfl, hc2, he⟩, _⟩ := hrel
  have hl1 : c1.length = 256 := Rt.length r1
  have hcell1 : w.cell? ⟨bd, 256, none⟩ = some (.slice nA rows.length nC) := by
    have := hlies 256 (.slice nA rows.length nC) (by rw [List.getElem?_append_right (by omega), hl1]; rfl)
    rwa [Nat.zero_add] at this
  have hcell2 : w.cell? ⟨bd, 257, none⟩ = some (.slice eA ends.length eC) := by
    have := hlies 257 (.slice eA ends.length eC) (by rw [List.getElem?_append_right (by omega), hl1]; rfl)
    rwa [Nat.zero_add] at this
  obtain ⟨_, q3⟩ := q3
  obtain ⟨_, q4⟩ := q4
  -- the rows
  obtain ⟨br, ob, hnA, hrows⟩ : ∃ br ob, (0 < rows.length → nA = some ⟨br, ob, none⟩) ∧ ∀ i (h : i < rows.length), ∃ ecs, Lies w br (ob + i * 1) ecs ∧ Rt w (E.ok (tbOf (esApart cls rows ends))) (.slice (.int .i64)) ecs rows[i] := by
    cases hk : E.κ 1 with
    | none =>
      rw [hk] at q3
      have q3 : rows = [] := q3
      subst q3
      exact ⟨0, 0, fun h => by simp at h, fun i h => by simp at h⟩
    | some p =>
      obtain ⟨b, o⟩ := p
      rw [hk] at q3 hn
      exact ⟨b, o, fun _ => hn.1, q3.2.2.2⟩
  obtain ⟨be, oe, heA, hends⟩ : ∃ be oe, (0 < ends.length → eA = some ⟨be, oe, none⟩) ∧ ∀ i (h : i < ends.length), ∃ ecs, Lies w be (oe + i * 1) ecs ∧ Rt w (E.ok (tbOf (esApart cls rows ends))) .bool ecs ends[i] := by
    cases hk : E.κ 2 with
    | none =>
      rw [hk] at q4
      have q4 : ends = [] := q4
      subst q4
      exact ⟨0, 0, fun h => by simp at h, fun i h => by simp at h⟩
    | some p =>
      obtain ⟨b, o⟩ := p
      rw [hk] at q4 he
      exact ⟨b, o, fun _ => he.1, q4.2.2.2⟩
  have hrl : ∀ i (h : i < rows.length), rows[i].length = (rows.headD []).length ∧ ∀ x (hx : x < rows[i].length), 0 ≤ rows[i][x] ∧ rows[i][x] < (rows.length : Int) := fun i h => by
    have := hin rows[i] (List.getElem_mem h)
    exact ⟨this.1, fun x hx => this.2 _ (List.getElem_mem hx)⟩
  have hrowx : ∀ i : Nat, ∃ t : Nat × Nat × Nat, i < rows.length → (∃ rA, w.cell? ⟨br, ob + i, none⟩ = some (.slice rA (rows.headD []).length t.1)) ∧ (0 < (rows.headD []).length → w.cell? ⟨br, ob + i, none⟩ = some (.slice (some ⟨t.2.1, t.2.2, none⟩) (rows.headD []).length t.1)) ∧
      ∀ x, x < (rows.headD []).length → w.cell? ⟨t.2.1, t.2.2 + x, none⟩ = some (.int .i64 ((((rows.getD i []).getD x 0).toNat : Nat) : Int)) := by
    intro i
    by_cases h : i < rows.length
    · obtain ⟨ecs, l1, ad, cap, rfl, l2, l3, l4⟩ := hrows i h
      obtain ⟨hl, hx⟩ := hrl i h
      have hc : w.cell? ⟨br, ob + i, none⟩ = some (.slice ad (rows.headD []).length cap) := by
        have := l1 0 _ rfl
        rw [show rows[i].length = (rows.headD []).length from hl] at this
        rwa [show ob + i * 1 + 0 = ob + i by omega] at this
      rcases l4 with l4 | ⟨bi, oi, rfl, _, _, l5⟩
      · have l4 : rows[i] = [] := l4
        have : (rows.headD []).length = 0 := by rw [← hl, l4]; rfl
        exact ⟨(cap, 0, 0), fun _ => ⟨⟨_, hc⟩, fun h0 => by omega, fun x hx => by omega⟩⟩
      · refine ⟨(cap, bi, oi), fun _ => ⟨⟨_, hc⟩, fun _ => hc, fun x hx' => ?_⟩⟩
        have hx'' : x < rows[i].length := by omega
        obtain ⟨ecs, m1, m2⟩ := l5 x hx''
        obtain ⟨rfl, _⟩ := m2
        have h1 := m1 0 _ rfl
        rw [show oi + x * Ty.size (.int .i64) + 0 = oi + x by simp [Ty.size]] at h1
        rw [h1]
        have hge : (rows.getD i []).getD x 0 = rows[i][x] := by
          rw [List.getD_eq_getElem?_getD, List.getD_eq_getElem?_getD, List.getElem?_eq_getElem h]
          simp only [Option.getD_some]
          rw [List.getElem?_eq_getElem hx'']; rfl
        rw [hge, Int.toNat_of_nonneg (hx x hx'').1]
    · exact ⟨(0, 0, 0), fun h' => absurd h' h⟩
  obtain ⟨tf, htf⟩ := Classical.axiomOfChoice hrowx
  have hD : ApD w ⟨bd, rows.length, (rows.headD []).length, br, ob, be, oe, nC, eC, fun i => (tf i).2.1, fun i => (tf i).2.2, fun i => (tf i).1, fun i x => ((rows.getD i []).getD x 0).toNat, fun i => ends.getD i false⟩ := by
    refine ⟨hsm, ⟨nA, hcell1⟩, fun h => by rw [← hnA h]; exact hcell1, fun i hi => (htf i hi).1, fun i hi => (htf i hi).2.1, fun i x hi => (htf i hi).2.2 x, fun i x hi hx => ?_, fun h => ?_, fun i hi => ?_⟩
    · show ((rows.getD i []).getD x 0).toNat < rows.length
      have hi : i < rows.length := hi
      have hx : x < (rows.headD []).length := hx
      obtain ⟨hl, h2⟩ := hrl i hi
      have hge : (rows.getD i []).getD x 0 = rows[i][x] := by
        rw [List.getD_eq_getElem?_getD, List.getD_eq_getElem?_getD, List.getElem?_eq_getElem hi]
        simp only [Option.getD_some]
        rw [List.getElem?_eq_getElem (by omega)]; rfl
      rw [hge]
      have := h2 x (by omega)
      omega
    · show w.cell? ⟨bd, 257, none⟩ = some (.slice (some ⟨be, oe, none⟩) rows.length eC)
      rw [← heA (by rw [← hlen]; exact h), hlen]; exact hcell2
    · have hi : i < rows.length := hi
      obtain ⟨ecs, l1, rfl⟩ := hends i (by omega)
      show w.cell? ⟨be, oe + i, none⟩ = some (.bool (ends.getD i false))
      have := l1 0 _ rfl
      rw [show oe + i * 1 + 0 = oe + i by omega] at this
      rw [this, List.getD_eq_getElem?_getD, List.getElem?_eq_getElem (by omega)]; rfl
  refine Code.wp_mono' (apart_wp T hD O (by omega) (by show (rows.headD []).length < _; omega) e7) ?_
  rintro e a' w' ⟨rfl, hF⟩
  refine ⟨rfl, ?_⟩
  rw [apartB_pm] at hF
  have U := turn_new (E := E) (w0 := w0) (own0 := own0) (a := a) (L := []) (f := fun _ => none) (w' := w') (i := 0) hR (by simp) (by omega) hF.size hF.os hF.tape hF.output hF.old
    (by intro p hp; cases hp) (by intro j p hp; cases hp) (by intro j k p q h1 h2 _; cases h1) (by intro k e hk; cases hk)
  have hR1 := hR.turn (D' := [0]) U (fun k hk => hk.notFresh (by simp) (by omega)) (fun k hk => hk.cons) (fun k hk => hk) (fun k hk => known_new hk)
  have hget : ∀ i : Nat, (((List.replicate M S.junk).set 6 (.bool (apartP rows ends))).getD i .junk = .junk) ∨ i = 6 := by
    intro i
    by_cases h6 : i = 6
    · exact .inr h6
    left
    rw [List.getD_eq_getElem?_getD, List.getElem?_set_ne (by omega), List.getElem?_replicate]
    split <;> rfl
  have hget6 : ((List.replicate M S.junk).set 6 (.bool (apartP rows ends))).getD 6 .junk = .bool (apartP rows ends) := by
    rw [List.getD_eq_getElem?_getD, List.getElem?_set_self (by simp; omega)]; rfl
  have hR2 := (hR1.reslot (sl' := (List.replicate M S.junk).set 6 (.bool (apartP rows ends))) (tmps' := a'.tmps) (by simp; rw [hF.tsz, hsize]) (fun i => by
    rcases hget i with h | rfl
    · rw [h]; exact relV_junk _
    · rw [hget6]
      exact relV_bool.2 hF.e6) (fun i k hk => by
    rcases hget i with h | rfl
    · rw [h] at hk; simp [keysOf] at hk
    · rw [hget6] at hk; simp [keysOf] at hk)).next (fun d hd => by simp at hd; omega)
  exact ⟨⟨_, hR2, ⟨rfl, rfl, fun k hk => absurd hk (Nat.not_lt_zero k), fun k hk => absurd hk (Nat.not_lt_zero k)⟩⟩, hF.df, (by show 1 ≤ 2; omega), rfl, by simp [stApart, placeSt, placeL_len]⟩
end Go.Ab
