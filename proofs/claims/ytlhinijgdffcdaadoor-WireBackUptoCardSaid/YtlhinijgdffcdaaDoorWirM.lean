/- WirM: a part of the proofs of this seat's statements. -/
import Derived.Test.YtlhinijgdffcdaaDoorWirL
/- The wire: what is read is what was written. -/
namespace Go.Ab.T
open Go Go.Ab
set_option linter.unusedVariables false
set_option linter.unusedSimpArgs false

theorem le_de1 (x : Int) (h : 0 ≤ x ∧ x ≤ 255) : wn 1 (de [x]) = [x] := by
  have h1 : de [x] = x := by simp only [de]; omega
  rw [h1]
  unfold wn
  rw [show IntKind.u64.wrap x = x by rw [IntKind.wrap_u64]; omega]
  simp only [le]
  rw [show x % 256 = x by omega]
theorem le_de2 (x y : Int) (h : 0 ≤ x ∧ x ≤ 255) (h2 : 0 ≤ y ∧ y ≤ 255) : wn 2 (de [x, y]) = [x, y] ∧ de [x, y] = x + 256 * y := by
  have h1 : de [x, y] = x + 256 * y := by simp only [de]; omega
  refine ⟨?_, h1⟩
  rw [h1]
  unfold wn
  rw [show IntKind.u64.wrap (x + 256 * y) = x + 256 * y by rw [IntKind.wrap_u64]; omega]
  simp only [le]
  rw [show (x + 256 * y) % 256 = x by omega, show (x + 256 * y) / 256 % 256 = y by omega]

theorem rn1_nil {b : List Int} {e : Err} (h : isB b) (hn : (rn 1 b e).2.2.isNil = true) : e.isNil = true ∧ b = wn 1 (rn 1 b e).1 ++ (rn 1 b e).2.1 := by
  unfold rn at hn ⊢
  cases he : e.isNil with
  | false => rw [he, cond_false] at hn; rw [he] at hn; cases hn
  | true =>
    rw [he, cond_true] at hn
    refine ⟨rfl, ?_⟩
    cases b with
    | nil => cases hn
    | cons x r =>
      have hd : decide ((x :: r).length < 1) = false := decide_eq_false (by simp)
      rw [cond_true, hd, cond_false]
      show x :: r = wn 1 (de [x]) ++ r
      rw [le_de1 x (h x (by simp))]; rfl
theorem rn2_nil {b : List Int} {e : Err} (h : isB b) (hn : (rn 2 b e).2.2.isNil = true) : e.isNil = true ∧ b = wn 2 (rn 2 b e).1 ++ (rn 2 b e).2.1 ∧ nOk (rn 2 b e).1 65535 = true := by
  unfold rn at hn ⊢
  cases he : e.isNil with
  | false => rw [he, cond_false] at hn; rw [he] at hn; cases hn
  | true =>
    rw [he, cond_true] at hn
    refine ⟨rfl, ?_⟩
    match b, h, hn with
    | [], _, hn => cases hn
    | [x], _, hn => cases hn
    | x :: y :: r, h, hn =>
      have hd : decide ((x :: y :: r).length < 2) = false := decide_eq_false (by simp)
      have hx := h x (by simp)
      have hy := h y (by simp)
      rw [cond_true, hd, cond_false]
      show x :: y :: r = wn 2 (de [x, y]) ++ r ∧ nOk (de [x, y]) 65535 = true
      obtain ⟨h1, h2⟩ := le_de2 x y hx hy
      rw [h1, h2]
      exact ⟨rfl, by unfold nOk; rw [decide_eq_true (by omega : 0 ≤ x + 256 * y), decide_eq_true (by omega : x + 256 * y ≤ 65535)]; rfl⟩
theorem nOk1 {b : List Int} (e : Err) (h : isB b) : nOk (rn 1 b e).1 255 = true := by
  have := rn_le e h
  unfold nOk
  rw [decide_eq_true this.1, decide_eq_true this.2]; rfl
theorem rt_nil {b : List Int} {e : Err} (h : isB b) (hn : (rt b e).2.2.isNil = true) : e.isNil = true ∧ b = wt (rt b e).1 ++ (rt b e).2.1 ∧ tOk (rt b e).1 = true := by
  unfold rt at hn ⊢
  cases he : e.isNil with
  | false => rw [he, cond_false] at hn; rw [he] at hn; cases hn
  | true =>
    rw [he, cond_true] at hn
    refine ⟨rfl, ?_⟩
    rw [cond_true]
    match b, h, hn with
    | [], _, hn => cases hn
    | [x], _, hn => cases hn
    | x :: y :: r, h, hn =>
      have hd : decide ((x :: y :: r).length < 2) = false := decide_eq_false (by simp)
      have hx := h x (by simp)
      have hy := h y (by simp)
      have ht : (x :: y :: r).take 2 = [x, y] := rfl
      obtain ⟨h1, h2⟩ := le_de2 x y hx hy
      rw [hd, cond_false, ht, h2] at hn ⊢
      cases a2 : decide (1000 < x + 256 * y) with
      | true => rw [a2] at hn; cases hn
      | false =>
        rw [a2, cond_false] at hn
        rw [cond_false]
        cases a3 : decide (((x :: y :: r).length : Int) < 2 + (x + 256 * y)) with
        | true => rw [a3] at hn; cases hn
        | false =>
          have a2 := of_decide_eq_false a2
          have a3 := of_decide_eq_false a3
          rw [cond_false]
          obtain ⟨n, hn'⟩ : ∃ n : Nat, x + 256 * y = (n : Int) := ⟨_, (Int.toNat_of_nonneg (by omega)).symm⟩
          rw [hn'] at a2 a3 ⊢
          have hl : n ≤ r.length := by simp at a3; omega
          show x :: y :: r = wt (r.take n) ++ (x :: y :: r).drop (2 + n) ∧ tOk (r.take n) = true
          have hk : tOk (r.take n) = true := decide_eq_true (by rw [List.length_take]; omega)
          refine ⟨?_, hk⟩
          unfold wt
          rw [hk, cond_true, List.length_take, show min n r.length = n by omega]
          have hle : le 2 (n : Int) = [x, y] := by
            rw [← hn', ← h1, h2]
            unfold wn
            rw [show IntKind.u64.wrap (x + 256 * y) = x + 256 * y by rw [IntKind.wrap_u64]; omega]
          rw [hle, show (x :: y :: r).drop (2 + n) = r.drop n by rw [Nat.add_comm]; rfl]
          simp

theorem rf_nil {k : Int} {e : Err} (h : (rf k e).isNil = true) : False := by
  unfold rf at h
  cases he : e.isNil with
  | true => rw [he] at h; cases h
  | false => rw [he, cond_false, he] at h; cases h

theorem r7_nil {k : Int} {b : List Int} {e : Err} (h : Ib b) (hn : (r7 k b e).e.isNil = true) : e.isNil = true ∧ (1 ≤ k ∧ k ≤ 7) ∧
    (let g := r7 k b e; b = wF k g.nm g.ot g.tx g.ak g.wo g.mo ++ g.b ∧ okF k g.nm g.ot g.tx g.ak g.wo g.mo = true ∧ restB k g.nm g.ot g.tx g.ak g.wo g.mo [] = true) := by
  by_cases c12 : k = 1 ∨ k = 2
  · have hd : (decide (k = 1) || decide (k = 2)) = true := by rcases c12 with rfl | rfl <;> rfl
    unfold r7 okF wF at *
    rw [hd] at hn ⊢
    dsimp only [cond_true] at hn ⊢
    obtain ⟨a1, a2, a3⟩ := rt_nil (rt_inv _ h).1 hn
    obtain ⟨b1, b2, b3⟩ := rt_nil h.1 a1
    refine ⟨b1, by omega, ?_, by rw [b3, a3]; rfl, by rcases c12 with rfl | rfl <;> rfl⟩
    rw [List.append_assoc, ← a2]; exact b2
  have d12 : (decide (k = 1) || decide (k = 2)) = false := by rw [decide_eq_false (fun h => c12 (.inl h)), decide_eq_false (fun h => c12 (.inr h))]; rfl
  by_cases c36 : k = 3 ∨ k = 6
  · have hd : (decide (k = 3) || decide (k = 6)) = true := by rcases c36 with rfl | rfl <;> rfl
    unfold r7 okF wF at *
    rw [d12, hd] at hn ⊢
    dsimp only [cond_true, cond_false] at hn ⊢
    obtain ⟨b1, b2, b3⟩ := rt_nil h.1 hn
    exact ⟨b1, by omega, b2, b3, by rcases c36 with rfl | rfl <;> rfl⟩
  have d36 : (decide (k = 3) || decide (k = 6)) = false := by rw [decide_eq_false (fun h => c36 (.inl h)), decide_eq_false (fun h => c36 (.inr h))]; rfl
  by_cases c4 : k = 4
  · unfold r7 okF wF at *
    rw [d12, d36, decide_eq_true c4] at hn ⊢
    dsimp only [cond_true, cond_false] at hn ⊢
    have i1 := rn_inv 1 e h
    obtain ⟨a1, a2, a3⟩ := rt_nil (rt_inv _ i1).1 hn
    obtain ⟨b1, b2, b3⟩ := rt_nil i1.1 a1
    obtain ⟨e1, e2⟩ := rn1_nil h.1 b1
    refine ⟨e1, by omega, ?_, by rw [b3, a3, nOk1 _ h.1]; rfl, by subst c4; rfl⟩
    rw [List.append_assoc, List.append_assoc, ← a2, ← b2]; exact e2
  by_cases c5 : k = 5
  · unfold r7 okF wF at *
    rw [d12, d36, decide_eq_false c4, decide_eq_true c5] at hn ⊢
    dsimp only [cond_true, cond_false] at hn ⊢
    obtain ⟨a1, a2, a3⟩ := rt_nil (rt_inv _ h).1 hn
    obtain ⟨b1, b2, b3⟩ := rt_nil h.1 a1
    refine ⟨b1, by omega, ?_, by rw [b3, a3]; rfl, by subst c5; rfl⟩
    rw [List.append_assoc, ← a2]; exact b2
  by_cases c7 : k = 7
  · unfold r7 okF wF at *
    rw [d12, d36, decide_eq_false c4, decide_eq_false c5, decide_eq_true c7] at hn ⊢
    dsimp only [cond_true, cond_false] at hn ⊢
    obtain ⟨a1, a2, a3⟩ := rn2_nil (rt_inv _ h).1 hn
    obtain ⟨b1, b2, b3⟩ := rt_nil h.1 a1
    refine ⟨b1, by omega, ?_, by rw [b3, a3]; rfl, by subst c7; rfl⟩
    rw [List.append_assoc, ← a2]; exact b2
  exfalso
  unfold r7 at hn
  rw [d12, d36, decide_eq_false c4, decide_eq_false c5, decide_eq_false c7] at hn
  exact rf_nil hn

theorem part_nil {b : List Int} {e : Err} (h : Ib b) (hn : (r7 (rn 1 b e).1 (rn 1 b e).2.1 (rn 1 b e).2.2).e.isNil = true) : e.isNil = true ∧
    (let k := rn 1 b e; let g := r7 k.1 k.2.1 k.2.2; b = wP k.1 g.nm g.ot g.tx g.ak g.wo g.mo [] ++ g.b ∧ okP k.1 g.nm g.ot g.tx g.ak g.wo g.mo [] = true) := by
  obtain ⟨a1, a2, a3⟩ := r7_nil (rn_inv 1 _ h) hn
  obtain ⟨b1, b2⟩ := rn1_nil h.1 a1
  refine ⟨b1, ?_⟩
  dsimp only at a3 ⊢
  obtain ⟨a3, a4, a5⟩ := a3
  unfold wP okP
  rw [decide_eq_true a2.1, decide_eq_true a2.2, a4, a5]
  refine ⟨?_, rfl⟩
  show b = (wn 1 _ ++ wF _ _ _ _ _ _ _) ++ _
  rw [List.append_assoc, ← a3]
  exact b2

theorem rP_nil : ∀ (n : Nat) {b : List Int} {e : Err} {ps : List (Rose Lb)}, Ib b → (rP n b e ps).2.1.isNil = true →
    e.isNil = true ∧ ∃ qs, (rP n b e ps).2.2 = ps ++ qs ∧ qs.length = n ∧ qs.all okR = true ∧ b = qs.flatMap wR ++ (rP n b e ps).1
  | 0, b, e, ps, h, hn => ⟨hn, [], by simp [rP], rfl, rfl, rfl⟩
  | n + 1, b, e, ps, h, hn => by
    unfold rP at hn ⊢
    cases he : e.isNil with
    | false =>
      rw [he, cond_false] at hn
      have := (rP_nil n h hn).1
      rw [he] at this; cases this
    | true =>
      rw [he, cond_true] at hn
      rw [cond_true]
      dsimp only at hn ⊢
      obtain ⟨a1, qs, a2, a3, a4, a5⟩ := rP_nil n (r7_inv _ _ (rn_inv 1 _ h)) hn
      obtain ⟨b1, b2, b3⟩ := part_nil h a1
      refine ⟨rfl, _ :: qs, by rw [a2, List.append_assoc]; rfl, by simp [a3], ?_, ?_⟩
      · rw [List.all_cons, a4, Bool.and_true]; exact b3
      · rw [List.flatMap_cons, List.append_assoc, ← a5]; exact b2

theorem rC_nil {b : List Int} (h : Ib b) (hn : (rC b).e.isNil = true) : (let c := rC b; b = wC c.k c.nm c.ot c.tx c.ak c.wo c.mo c.ps ++ c.b ∧ okC c.k c.nm c.ot c.tx c.ak c.wo c.mo c.ps = true) := by
  by_cases h8 : (rn 1 b .nil).1 = 8
  · rw [rC_8 b h8] at hn ⊢
    dsimp only at hn ⊢
    have i1 := rn_inv 1 .nil h
    have i2 := rn_inv 1 (rn 1 b .nil).2.2 i1
    obtain ⟨a1, qs, a2, a3, a4, a5⟩ := rP_nil _ i2 hn
    have hl := rn_le (rn 1 b .nil).2.2 i1.1
    cases hd : decide ((20 : Int) < (rn 1 (rn 1 b Err.nil).2.1 (rn 1 b Err.nil).2.2).1) with
    | true => rw [hd] at a1; exact (rf_nil a1).elim
    | false =>
      rw [hd] at a1
      have hd' := of_decide_eq_false hd
      obtain ⟨b1, b2⟩ := rn1_nil i1.1 a1
      obtain ⟨c1, c2⟩ := rn1_nil h.1 b1
      rw [hd] at a2 a5
      rw [a2, List.nil_append]
      have hq : ((qs.length : Nat) : Int) = (rn 1 (rn 1 b Err.nil).2.1 (rn 1 b Err.nil).2.2).1 := by omega
      have hk : nOk (qs.length : Int) 20 = true := by unfold nOk; rw [decide_eq_true (by omega : 0 ≤ (qs.length : Int)), decide_eq_true (by omega : (qs.length : Int) ≤ 20)]; rfl
      unfold wC okC
      rw [show decide ((8 : Int) = 8) = true from rfl, cond_true, cond_true, hk, a4]
      refine ⟨?_, rfl⟩
      rw [List.append_assoc, List.append_assoc, hq, ← a5, ← b2, ← h8]
      exact c2
  · rw [rC_7 b h8] at hn ⊢
    dsimp only at hn ⊢
    obtain ⟨b1, b2, b3⟩ := part_nil h hn
    unfold wC okC
    rw [decide_eq_false h8]
    exact ⟨b2, b3⟩

/-! ### errors -/
def isE (e : Err) : Prop := e.isNil = true ∨ ∃ k : Int, k ≠ 0 ∧ e = BAD k
theorem rn_isE (n : Nat) (b : List Int) {e : Err} (h : isE e) : isE (rn n b e).2.2 := by
  unfold rn
  cases he : e.isNil
  · exact h
  · cases decide (b.length < n)
    · exact h
    · exact .inr ⟨2, by decide, rfl⟩
theorem rt_isE (b : List Int) {e : Err} (h : isE e) : isE (rt b e).2.2 := by
  unfold rt
  cases he : e.isNil
  · exact h
  · cases decide (b.length < 2)
    · cases decide (1000 < de (b.take 2))
      · cases decide ((b.length : Int) < 2 + de (b.take 2))
        · exact h
        · exact .inr ⟨2, by decide, rfl⟩
      · exact .inr ⟨4, by decide, rfl⟩
    · exact .inr ⟨2, by decide, rfl⟩
theorem rf_isE {k : Int} (hk : k ≠ 0) {e : Err} (h : isE e) : isE (rf k e) := by
  unfold rf
  cases he : e.isNil
  · exact h
  · exact .inr ⟨k, hk, rfl⟩
theorem r7_isE (k : Int) (b : List Int) {e : Err} (h : isE e) : isE (r7 k b e).e := by
  unfold r7
  cases decide (k = 1) || decide (k = 2)
  · cases decide (k = 3) || decide (k = 6)
    · cases decide (k = 4)
      · cases decide (k = 5)
        · cases decide (k = 7)
          · exact rf_isE (by decide) h
          · exact rn_isE 2 _ (rt_isE _ h)
        · exact rt_isE _ (rt_isE _ h)
      · exact rt_isE _ (rt_isE _ (rn_isE 1 _ h))
    · exact rt_isE _ h
  · exact rt_isE _ (rt_isE _ h)
theorem rP_isE : ∀ (n : Nat) (b : List Int) {e : Err} (ps : List (Rose Lb)), isE e → isE (rP n b e ps).2.1
  | 0, b, e, ps, h => h
  | n + 1, b, e, ps, h => by
    unfold rP
    cases e.isNil
    · exact rP_isE n b ps h
    · exact rP_isE n _ _ (r7_isE _ _ (rn_isE 1 _ h))
theorem rN_isE : ∀ (n : Nat) (b : List Int) {e : Err} (ns : List (List Int)), isE e → isE (rN n b e ns).2.1
  | 0, b, e, ns, h => h
  | n + 1, b, e, ns, h => by
    unfold rN
    cases e.isNil
    · exact h
    · exact rN_isE n _ _ (rt_isE _ h)
theorem nil_isE : isE .nil := .inl rfl
theorem rC_isE (b : List Int) : isE (rC b).e := by
  by_cases h8 : (rn 1 b .nil).1 = 8
  · rw [rC_8 b h8]
    dsimp only
    apply rP_isE
    cases decide ((20 : Int) < (rn 1 (rn 1 b Err.nil).2.1 (rn 1 b Err.nil).2.2).1)
    · exact rn_isE 1 _ (rn_isE 1 _ nil_isE)
    · exact rf_isE (by decide) (rn_isE 1 _ (rn_isE 1 _ nil_isE))
  · rw [rC_7 b h8]
    exact r7_isE _ _ (rn_isE 1 _ nil_isE)
theorem rY_isE (b : List Int) : isE (rY b).e := by
  unfold rY
  dsimp only
  apply rN_isE
  apply rn_isE
  apply rt_isE
  apply rt_isE
  have h4 := rn_isE 1 (rn 1 (rn 2 (rn 1 b Err.nil).2.1 (rn 1 b Err.nil).2.2).2.1 (rn 2 (rn 1 b Err.nil).2.1 (rn 1 b Err.nil).2.2).2.2).2.1 (rn_isE 1 (rn 2 (rn 1 b Err.nil).2.1 (rn 1 b Err.nil).2.2).2.1 (rn_isE 2 (rn 1 b Err.nil).2.1 (rn_isE 1 b nil_isE)))
  revert h4
  generalize (rn 1 (rn 1 (rn 2 (rn 1 b Err.nil).2.1 (rn 1 b Err.nil).2.2).2.1 (rn 2 (rn 1 b Err.nil).2.1 (rn 1 b Err.nil).2.2).2.2).2.1 (rn 1 (rn 2 (rn 1 b Err.nil).2.1 (rn 1 b Err.nil).2.2).2.1 (rn 2 (rn 1 b Err.nil).2.1 (rn 1 b Err.nil).2.2).2.2).2.2) = k4
  intro h4
  cases decide (1 < k4.1)
  · exact h4
  · exact rf_isE (by decide) h4
end Go.Ab.T

/- The wire: bytes that are read are those that are written. -/
namespace Go.Ab.T
open Go Go.Ab
set_option linter.unusedVariables false
set_option linter.unusedSimpArgs false

theorem rN_nil : ∀ (n : Nat) {b : List Int} {e : Err} {ns : List (List Int)}, Ib b → (rN n b e ns).2.1.isNil = true →
    e.isNil = true ∧ ∃ qs, (rN n b e ns).2.2 = ns ++ qs ∧ qs.length = n ∧ qs.all tOk = true ∧ b = flatT qs ++ (rN n b e ns).1
  | 0, b, e, ns, h, hn => ⟨hn, [], by simp [rN], rfl, rfl, rfl⟩
  | n + 1, b, e, ns, h, hn => by
    unfold rN at hn ⊢
    cases he : e.isNil with
    | false => rw [he, cond_false] at hn; rw [he] at hn; cases hn
    | true =>
      rw [he, cond_true] at hn
      rw [cond_true]
      dsimp only at hn ⊢
      obtain ⟨a1, qs, a2, a3, a4, a5⟩ := rN_nil n (rt_inv _ h) hn
      obtain ⟨b1, b2, b3⟩ := rt_nil h.1 a1
      refine ⟨rfl, _ :: qs, by rw [a2, List.append_assoc]; rfl, by simp [a3], ?_, ?_⟩
      · rw [List.all_cons, a4, Bool.and_true]; exact b3
      · unfold flatT at a5 ⊢
        rw [List.flatMap_cons, List.append_assoc, ← a5]; exact b2

theorem rY_nil {b : List Int} (h : Ib b) (hn : (rY b).e.isNil = true) : (let c := rY b; b = wY c.en c.at_ c.pt c.yes c.wo c.tx c.ns ++ c.b ∧ okY c.en c.at_ c.pt c.wo c.tx c.ns = true) := by
  unfold rY at hn ⊢
  dsimp only at hn ⊢
  have i1 := rn_inv 1 .nil h
  have j1 := @rn1_nil b .nil h.1
  have n1 := @nOk1 b .nil h.1
  generalize rn 1 b Err.nil = k1 at *
  have i2 := rn_inv 2 k1.2.2 i1
  have j2 := @rn2_nil k1.2.1 k1.2.2 i1.1
  generalize rn 2 k1.2.1 k1.2.2 = k2 at *
  have i3 := rn_inv 1 k2.2.2 i2
  have j3 := @rn1_nil k2.2.1 k2.2.2 i2.1
  have n3 := nOk1 k2.2.2 i2.1
  generalize rn 1 k2.2.1 k2.2.2 = k3 at *
  have i4 := rn_inv 1 k3.2.2 i3
  have j4 := @rn1_nil k3.2.1 k3.2.2 i3.1
  have n4 := rn_le k3.2.2 i3.1
  generalize rn 1 k3.2.1 k3.2.2 = k4 at *
  obtain ⟨e, he⟩ : ∃ e, e = (bif decide (1 < k4.1) then rf 3 k4.2.2 else k4.2.2) := ⟨_, rfl⟩
  rw [← he] at hn ⊢
  have i5 := rt_inv e i4
  have j5 := @rt_nil k4.2.1 e i4.1
  generalize rt k4.2.1 e = t1 at *
  have i6 := rt_inv t1.2.2 i5
  have j6 := @rt_nil t1.2.1 t1.2.2 i5.1
  generalize rt t1.2.1 t1.2.2 = t2 at *
  have i7 := rn_inv 1 t2.2.2 i6
  have j7 := @rn1_nil t2.2.1 t2.2.2 i6.1
  have n7 := rn_le t2.2.2 i6.1
  generalize rn 1 t2.2.1 t2.2.2 = n at *
  obtain ⟨a1, qs, a2, a3, a4, a5⟩ := rN_nil _ i7 hn
  obtain ⟨b1, b2⟩ := j7 a1
  obtain ⟨c1, c2, c3⟩ := j6 b1
  obtain ⟨d1, d2, d3⟩ := j5 c1
  cases hd : decide (1 < k4.1) with
  | true => rw [hd, cond_true] at he; rw [he] at d1; exact (rf_nil d1).elim
  | false =>
    rw [hd, cond_false] at he
    rw [he] at d1
    obtain ⟨e1, e2⟩ := j4 d1
    obtain ⟨f1, f2⟩ := j3 e1
    obtain ⟨g1, g2, g3⟩ := j2 f1
    obtain ⟨h1, h2⟩ := j1 g1
    have hd' := of_decide_eq_false hd
    have hq : ((qs.length : Nat) : Int) = n.1 := by omega
    have hk : nOk (qs.length : Int) 255 = true := by unfold nOk; rw [decide_eq_true (by omega : 0 ≤ (qs.length : Int)), decide_eq_true (by omega : (qs.length : Int) ≤ 255)]; rfl
    have hy : (bif decide (k4.1 = 1) then (1 : Int) else 0) = k4.1 := by
      by_cases h : k4.1 = 1
      · rw [decide_eq_true h, cond_true, h]
      · rw [decide_eq_false h, cond_false]; omega
    rw [a2, List.nil_append]
    unfold wY okY
    rw [hy, hk, a4, n1, g3, n3, d3, c3]
    refine ⟨?_, rfl⟩
    rw [hq]
    simp only [List.append_assoc]
    rw [← a5, ← b2, ← c2, ← d2, ← e2, ← f2, ← g2]
    exact h2

theorem isNil_eq {e : Err} (h : e.isNil = true) : e = .nil := by
  cases e <;> first | rfl | cases h

theorem takeCmd_cases {R : Type} (kf : Nat) (hkf : 300 ≤ kf) (b : List Int) (h : Ib b) (K : Int → List Int → List Int → List Int → Int → Int → Int → Int → List Int → List (Rose Lb) → Option R) :
    (∃ k nm ot tx ak wo mo ps r, b = wC k nm ot tx ak wo mo ps ++ r ∧ okC k nm ot tx ak wo mo ps = true ∧ wire_TakeCmd kf b K = K k nm ot tx ak mo ((wC k nm ot tx ak wo mo ps).length : Int) 0 wo ps) ∨
    (∃ k, k ≠ 0 ∧ wire_TakeCmd kf b K = K 0 [] [] [] 0 0 0 k [] []) := by
  rw [takeCmd_ok kf hkf b h]
  dsimp only
  rcases rC_isE b with hn | ⟨k, hk, he⟩
  · left
    obtain ⟨h1, h2⟩ := rC_nil h hn
    refine ⟨_, _, _, _, _, _, _, _, _, h1, h2, ?_⟩
    rw [hn, Bool.not_true, cond_false]
    have hl := congrArg List.length h1
    rw [List.length_append] at hl
    have hb := h.2
    rw [show IntKind.i64.wrap ((b.length : Int) - ((rC b).b.length : Int)) = ((wC (rC b).k (rC b).nm (rC b).ot (rC b).tx (rC b).ak (rC b).wo (rC b).mo (rC b).ps).length : Int) by rw [IntKind.wrap_i64]; omega]
  · right
    refine ⟨k, hk, ?_⟩
    rw [he]
    rfl
theorem takeReply_cases {R : Type} (kf : Nat) (hkf : 300 ≤ kf) (b : List Int) (h : Ib b) (K : Int → Int → Int → Bool → List Int → Int → Int → List Int → List (List Int) → Option R) :
    (∃ en at_ pt yes tx wo ns r, b = wY en at_ pt yes wo tx ns ++ r ∧ okY en at_ pt wo tx ns = true ∧ wire_TakeReply kf b K = K en at_ pt yes tx ((wY en at_ pt yes wo tx ns).length : Int) 0 wo ns) ∨
    (∃ k, k ≠ 0 ∧ wire_TakeReply kf b K = K 0 0 0 false [] 0 k [] []) := by
  rw [takeReply_ok kf hkf b h]
  dsimp only
  rcases rY_isE b with hn | ⟨k, hk, he⟩
  · left
    obtain ⟨h1, h2⟩ := rY_nil h hn
    refine ⟨_, _, _, _, _, _, _, _, h1, h2, ?_⟩
    rw [hn, Bool.not_true, cond_false]
    have hl := congrArg List.length h1
    rw [List.length_append] at hl
    have hb := h.2
    rw [show IntKind.i64.wrap ((b.length : Int) - ((rY b).b.length : Int)) = ((wY (rY b).en (rY b).at_ (rY b).pt (rY b).yes (rY b).wo (rY b).tx (rY b).ns).length : Int) by rw [IntKind.wrap_i64]; omega]
  · right
    refine ⟨k, hk, ?_⟩
    rw [he]
    rfl

theorem only_ok {R : Type} (kf : Nat) (hkf : 300 ≤ kf) (b : List Int) (hb : isB b) (K : Bool → Option R) : law29_WireOnly kf b K = K true := by
  unfold law29_WireOnly law29_WireOnly_b
  rw [begun_ok kf hkf, Bool.not_true, cond_false]
  by_cases hl : 5000 < (b.length : Int)
  · rw [decide_eq_true hl, cond_true]
  · rw [decide_eq_false hl, cond_false]
    have h : Ib b := ⟨hb, by omega⟩
    have fr : ∀ (w r : List Int) (x : Bool → Option R), b = w ++ r → (gd (decide (0 ≤ (w.length : Int))) (gd (decide ((w.length : Int) ≤ (b.length : Int))) (x (decide (w = b.take (Int.toNat (w.length : Int))))))) = x true := by
      intro w r x hw
      rw [gd_true (decide_eq_true (by omega)), gd_true (decide_eq_true (by rw [hw, List.length_append]; omega)), show Int.toNat (w.length : Int) = w.length from rfl, hw, List.take_left' rfl, decide_eq_true rfl]
    rcases takeCmd_cases kf hkf b h _ with ⟨k, nm, ot, tx, ak, wo, mo, ps, r, h1, h2, h3⟩ | ⟨e, he, h3⟩
    · refine h3.trans ?_
      rcases takeReply_cases kf hkf b h _ with ⟨en, at_, pt, yes, tx', wo', ns, r', g1, g2, g3⟩ | ⟨e', he', g3⟩
      · refine g3.trans ?_
        rw [putCmd_ok kf (by omega) [] (by simp), h2, cond_true, putReply_ok kf hkf [] (by simp), g2, cond_true, List.nil_append, List.nil_append]
        simp only [decide_true, Bool.not_true, cond_false, cond_true, List.nil_append]
        rw [fr _ r (fun q => bif q then _ else _) h1, cond_true, fr _ r' K g1]
      · refine g3.trans ?_
        rw [putCmd_ok kf (by omega) [] (by simp), h2, cond_true, putReply_ok kf hkf [] (by simp), List.nil_append]
        cases okY 0 0 0 [] [] [] <;>
        · simp only [decide_true, Bool.not_true, cond_false, cond_true, List.nil_append]
          rw [fr _ r (fun q => bif q then _ else _) h1, cond_true, decide_eq_false he', Bool.not_false, cond_true]
    · refine h3.trans ?_
      rcases takeReply_cases kf hkf b h _ with ⟨en, at_, pt, yes, tx', wo', ns, r', g1, g2, g3⟩ | ⟨e', he', g3⟩
      · refine g3.trans ?_
        rw [putCmd_ok kf (by omega) [] (by simp), putReply_ok kf hkf [] (by simp), putReply_ok kf hkf [] (by simp), g2, cond_true, List.nil_append]
        cases okC 0 [] [] [] 0 [] 0 [] <;>
        · simp only [decide_true, Bool.not_true, cond_false, cond_true, List.nil_append]
          rw [decide_eq_false he, Bool.not_false, cond_true, fr _ r' K g1]
      · refine g3.trans ?_
        rw [putCmd_ok kf (by omega) [] (by simp), putReply_ok kf hkf [] (by simp), putReply_ok kf hkf [] (by simp)]
        rw [decide_eq_false he, decide_eq_false he']
        cases okC 0 [] [] [] 0 [] 0 [] <;> cases okY 0 0 0 [] [] [] <;> rfl
end Go.Ab.T
