/- WirN: a part of the proofs of this seat's statements. -/
import Derived.Test.YtlhinijgdffcdaaDoorWirM
import Derived.Test.YtlhinijgdffcdaaDoorTop1
/- The wire: what is written is read; what is cut off is short. -/
namespace Go.Ab.T
open Go Go.Ab
set_option linter.unusedVariables false
set_option linter.unusedSimpArgs false

theorem nOk_iff {v m : Int} : nOk v m = true ↔ 0 ≤ v ∧ v ≤ m := by unfold nOk; simp
theorem wn1_eq {v : Int} (h : nOk v 255 = true) : wn 1 v = [v] := by
  rw [nOk_iff] at h
  unfold wn
  rw [show IntKind.u64.wrap v = v by rw [IntKind.wrap_u64]; omega]
  simp only [le]
  rw [show v % 256 = v by omega]
theorem wn2_eq {v : Int} (h : nOk v 65535 = true) : wn 2 v = [v % 256, v / 256] := by
  rw [nOk_iff] at h
  unfold wn
  rw [show IntKind.u64.wrap v = v by rw [IntKind.wrap_u64]; omega]
  simp only [le]
  rw [show v / 256 % 256 = v / 256 by omega]
theorem rn1_ok {v : Int} (h : nOk v 255 = true) (r : List Int) : rn 1 (wn 1 v ++ r) .nil = (v, r, .nil) := by
  rw [wn1_eq h]
  rw [nOk_iff] at h
  unfold rn
  have hd : decide (([v] ++ r).length < 1) = false := decide_eq_false (by simp)
  rw [hd]
  show (de [v], r, Err.nil) = _
  rw [show de [v] = v by simp only [de]; omega]
theorem rn2_ok {v : Int} (h : nOk v 65535 = true) (r : List Int) : rn 2 (wn 2 v ++ r) .nil = (v, r, .nil) := by
  rw [wn2_eq h]
  rw [nOk_iff] at h
  unfold rn
  have hd : decide (([v % 256, v / 256] ++ r).length < 2) = false := decide_eq_false (by simp)
  rw [hd]
  show (de [v % 256, v / 256], r, Err.nil) = _
  rw [show de [v % 256, v / 256] = v by simp only [de]; omega]
theorem le2_eq {n : Nat} (h : n ≤ 1000) : le 2 (n : Int) = [(n : Int) % 256, (n : Int) / 256] := by
  simp only [le]
  rw [show (n : Int) / 256 % 256 = (n : Int) / 256 by omega]
theorem rt_hd {s : List Int} (h : tOk s = true) (p : List Int) : (rt (le 2 (s.length : Int) ++ p) .nil) = bif decide (p.length < s.length) then ([], le 2 (s.length : Int) ++ p, BAD 2) else (p.take s.length, p.drop s.length, .nil) := by
  have hl : s.length ≤ 1000 := of_decide_eq_true h
  rw [le2_eq hl]
  unfold rt
  have hd : decide (([(s.length : Int) % 256, (s.length : Int) / 256] ++ p).length < 2) = false := decide_eq_false (by simp)
  have ht : ([(s.length : Int) % 256, (s.length : Int) / 256] ++ p).take 2 = [(s.length : Int) % 256, (s.length : Int) / 256] := rfl
  have he : de [(s.length : Int) % 256, (s.length : Int) / 256] = (s.length : Int) := by simp only [de]; omega
  rw [show Err.nil.isNil = true from rfl, cond_true, hd, cond_false, ht, he, decide_eq_false (by omega : ¬ 1000 < (s.length : Int)), cond_false]
  by_cases hp : p.length < s.length
  · rw [decide_eq_true hp, cond_true, decide_eq_true (by simp; omega), cond_true]
  · rw [decide_eq_false hp, cond_false, decide_eq_false (by simp; omega), cond_false, show Int.toNat (s.length : Int) = s.length from rfl, Nat.add_comm 2]
    rfl
theorem rt_ok {s : List Int} (h : tOk s = true) (r : List Int) : rt (wt s ++ r) .nil = (s, r, .nil) := by
  unfold wt
  rw [h, cond_true, List.append_assoc, rt_hd h, decide_eq_false (by simp), cond_false]
  simp

/-! ### cut off -/
def Pre (p x : List Int) : Prop := ∃ s, x = p ++ s ∧ s ≠ []
theorem pre_app {p x y : List Int} (h : Pre p (x ++ y)) : Pre p x ∨ ∃ p', p = x ++ p' ∧ Pre p' y := by
  obtain ⟨s, h1, h2⟩ := h
  rcases List.append_eq_append_iff.1 h1 with ⟨a, ha, hb⟩ | ⟨a, ha, hb⟩
  · exact .inr ⟨a, ha, s, hb, h2⟩
  · cases a with
    | nil => right; refine ⟨[], by simpa using ha.symm, s, by simpa using hb.symm, h2⟩
    | cons c r => exact .inl ⟨c :: r, ha, by simp⟩
theorem pre_len {p x : List Int} (h : Pre p x) : p.length < x.length := by
  obtain ⟨s, rfl, h2⟩ := h
  rw [List.length_append]
  have : 0 < s.length := List.length_pos_iff.2 h2
  omega
theorem pre_nil {p : List Int} (h : Pre p []) : False := by have := pre_len h; simp at this
theorem rn_pre {n : Nat} {v : Int} {p : List Int} (h : Pre p (wn n v)) : (rn n p .nil).2.2 = BAD 2 := by
  have hl := pre_len h
  rw [wn_len] at hl
  unfold rn
  rw [decide_eq_true hl]
  rfl
theorem rt_pre {s p : List Int} (hs : tOk s = true) (h : Pre p (wt s)) : (rt p .nil).2.2 = BAD 2 := by
  unfold wt at h
  rw [hs, cond_true] at h
  rcases pre_app h with h | ⟨p', rfl, g⟩
  · have hl := pre_len h
    rw [le_length] at hl
    unfold rt
    rw [decide_eq_true hl]
    rfl
  · have hl := pre_len g
    rw [rt_hd hs, decide_eq_true hl]
    rfl
theorem rn_bad (n : Nat) (b : List Int) (k : Int) : (rn n b (BAD k)) = (0, b, BAD k) := rfl
theorem rt_bad (b : List Int) (k : Int) : (rt b (BAD k)) = ([], b, BAD k) := rfl
theorem rf_bad (j k : Int) : rf j (BAD k) = BAD k := rfl
theorem r7_bad (k : Int) (b : List Int) (j : Int) : (r7 k b (BAD j)).e = BAD j := by
  unfold r7
  cases decide (k = 1) || decide (k = 2)
  · cases decide (k = 3) || decide (k = 6)
    · cases decide (k = 4)
      · cases decide (k = 5)
        · cases decide (k = 7) <;> rfl
        · rfl
      · rfl
    · rfl
  · rfl
theorem rP_bad : ∀ (n : Nat) (b : List Int) (j : Int) (ps : List (Rose Lb)), rP n b (BAD j) ps = (b, BAD j, ps)
  | 0, b, j, ps => rfl
  | n + 1, b, j, ps => rP_bad n b j ps
theorem rN_bad : ∀ (n : Nat) (b : List Int) (j : Int) (ns : List (List Int)), rN n b (BAD j) ns = (b, BAD j, ns)
  | 0, b, j, ps => rfl
  | n + 1, b, j, ps => rfl

theorem ands {a b : Bool} (h : (a && b) = true) : a = true ∧ b = true := by simpa using h
theorem restB_7 {k : Int} {nm ot tx : List Int} {ak : Int} {wo : List Int} {mo : Int} {ps : List (Rose Lb)} (h : restB k nm ot tx ak wo mo ps = true) (hk : 1 ≤ k ∧ k ≤ 7) :
    (k ≠ 4 → ot = [] ∧ ak = 0) ∧ (k ≠ 1 ∧ k ≠ 2 → tx = []) ∧ (k ≠ 5 → wo = []) ∧ (k ≠ 7 → mo = 0) ∧ ps = [] := by
  unfold restB at h
  obtain ⟨h1, h⟩ := ands h
  obtain ⟨h2, h⟩ := ands h
  obtain ⟨h3, h⟩ := ands h
  obtain ⟨h4, h⟩ := ands h
  obtain ⟨h5, h⟩ := ands h
  obtain ⟨h6, h7⟩ := ands h
  simp only [Bool.or_eq_true, decide_eq_true_eq] at h1 h2 h3 h4 h5 h6 h7
  refine ⟨fun h => ⟨h2.resolve_left h, h4.resolve_left h⟩, fun h => ?_, fun h => ?_, fun h => h6.resolve_left h, ?_⟩
  · rcases h3 with (h3 | h3) | h3
    · exact absurd h3 h.1
    · exact absurd h3 h.2
    · exact h3
  · have := h5.resolve_left h; exact List.length_eq_zero_iff.1 (by omega)
  · have := h7.resolve_left (by omega); exact List.length_eq_zero_iff.1 (by omega)

theorem r7_ok {k : Int} {nm ot tx : List Int} {ak : Int} {wo : List Int} {mo : Int} {ps : List (Rose Lb)} (hk : 1 ≤ k ∧ k ≤ 7) (hr : restB k nm ot tx ak wo mo ps = true) (ho : okF k nm ot tx ak wo mo = true) (r : List Int) :
    r7 k (wF k nm ot tx ak wo mo ++ r) .nil = ⟨nm, ot, tx, ak, mo, r, .nil, wo⟩ := by
  obtain ⟨e1, e2, e3, e4, e5⟩ := restB_7 hr hk
  have : k = 1 ∨ k = 2 ∨ k = 3 ∨ k = 4 ∨ k = 5 ∨ k = 6 ∨ k = 7 := by omega
  unfold okF at ho
  unfold r7 wF
  rcases this with rfl | rfl | rfl | rfl | rfl | rfl | rfl <;>
    simp only [Int.reduceEq, decide_true, decide_false, cond_true, cond_false, Bool.or_true, Bool.true_or, Bool.false_or, Bool.or_false, ne_eq, not_true_eq_false, not_false_eq_true, false_implies, true_implies, and_self, and_true, true_and, and_false, false_and] at ho e1 e2 e3 e4 ⊢
  · obtain ⟨o1, o2⟩ := ands ho; obtain ⟨rfl, rfl⟩ := e1; subst e3 e4
    simp only [List.append_assoc, rt_ok o1, rt_ok o2]
  · obtain ⟨o1, o2⟩ := ands ho; obtain ⟨rfl, rfl⟩ := e1; subst e3 e4
    simp only [List.append_assoc, rt_ok o1, rt_ok o2]
  · obtain ⟨rfl, rfl⟩ := e1; subst e2 e3 e4
    simp only [rt_ok ho]
  · obtain ⟨o, o3⟩ := ands ho; obtain ⟨o1, o2⟩ := ands o; subst e2 e3 e4
    simp only [List.append_assoc, rn1_ok o1, rt_ok o2, rt_ok o3]
  · obtain ⟨o1, o2⟩ := ands ho; obtain ⟨rfl, rfl⟩ := e1; subst e2 e4
    simp only [List.append_assoc, rt_ok o1, rt_ok o2]
  · obtain ⟨rfl, rfl⟩ := e1; subst e2 e3 e4
    simp only [rt_ok ho]
  · obtain ⟨o1, o2⟩ := ands ho; obtain ⟨rfl, rfl⟩ := e1; subst e2 e3
    simp only [List.append_assoc, rt_ok o1, rn2_ok o2]

theorem tt_pre {s t p : List Int} (hs : tOk s = true) (ht : tOk t = true) (h : Pre p (wt s ++ wt t)) : (rt (rt p .nil).2.1 (rt p .nil).2.2).2.2 = BAD 2 := by
  rcases pre_app h with h | ⟨p', rfl, g⟩
  · rw [rt_pre hs h, rt_bad]
  · rw [rt_ok hs]; exact rt_pre ht g
theorem r7_pre {k : Int} {nm ot tx : List Int} {ak : Int} {wo : List Int} {mo : Int} {p : List Int} (hk : 1 ≤ k ∧ k ≤ 7) (ho : okF k nm ot tx ak wo mo = true) (h : Pre p (wF k nm ot tx ak wo mo)) :
    (r7 k p .nil).e = BAD 2 := by
  have : k = 1 ∨ k = 2 ∨ k = 3 ∨ k = 4 ∨ k = 5 ∨ k = 6 ∨ k = 7 := by omega
  unfold okF at ho
  unfold wF at h
  unfold r7
  rcases this with rfl | rfl | rfl | rfl | rfl | rfl | rfl <;>
    simp only [Int.reduceEq, decide_true, decide_false, cond_true, cond_false, Bool.or_true, Bool.true_or, Bool.false_or, Bool.or_false] at ho h ⊢
  · obtain ⟨o1, o2⟩ := ands ho; exact tt_pre o1 o2 h
  · obtain ⟨o1, o2⟩ := ands ho; exact tt_pre o1 o2 h
  · exact rt_pre ho h
  · obtain ⟨o, o3⟩ := ands ho; obtain ⟨o1, o2⟩ := ands o
    rcases pre_app h with h | ⟨p', rfl, g⟩
    · rw [rn_pre h, rt_bad, rt_bad]
    · rw [rn1_ok o1]; exact tt_pre o2 o3 g
  · obtain ⟨o1, o2⟩ := ands ho; exact tt_pre o1 o2 h
  · exact rt_pre ho h
  · obtain ⟨o1, o2⟩ := ands ho
    rcases pre_app h with h | ⟨p', rfl, g⟩
    · rw [rt_pre o1 h, rn_bad]
    · rw [rt_ok o1]; exact rn_pre g

theorem part_ok {k : Int} {nm ot tx : List Int} {ak : Int} {wo : List Int} {mo : Int} {ps : List (Rose Lb)} (ho : okP k nm ot tx ak wo mo ps = true) (r : List Int) :
    rn 1 (wP k nm ot tx ak wo mo ps ++ r) .nil = (k, wF k nm ot tx ak wo mo ++ r, .nil) ∧ r7 k (wF k nm ot tx ak wo mo ++ r) .nil = ⟨nm, ot, tx, ak, mo, r, .nil, wo⟩ ∧ ps = [] ∧ (1 ≤ k ∧ k ≤ 7) := by
  unfold okP at ho
  obtain ⟨h1, h2⟩ := ands ho
  obtain ⟨h2, h3⟩ := ands h2
  have hk : 1 ≤ k ∧ k ≤ 7 := by simpa using h1
  refine ⟨?_, r7_ok hk h2 h3 r, (restB_7 h2 hk).2.2.2.2, hk⟩
  unfold wP
  rw [h1, h2]
  show rn 1 ((wn 1 k ++ _) ++ r) .nil = _
  rw [List.append_assoc, rn1_ok (nOk_iff.2 (by omega))]
theorem part_pre {k : Int} {nm ot tx : List Int} {ak : Int} {wo : List Int} {mo : Int} {ps : List (Rose Lb)} {p : List Int} (ho : okP k nm ot tx ak wo mo ps = true) (h : Pre p (wP k nm ot tx ak wo mo ps)) :
    (r7 (rn 1 p .nil).1 (rn 1 p .nil).2.1 (rn 1 p .nil).2.2).e = BAD 2 ∧ (rn 1 p .nil).1 ≠ 8 := by
  unfold okP at ho
  obtain ⟨h1, h2⟩ := ands ho
  obtain ⟨h2, h3⟩ := ands h2
  have hk : 1 ≤ k ∧ k ≤ 7 := by simpa using h1
  unfold wP at h
  rw [h1, h2] at h
  rcases pre_app (show Pre p (wn 1 k ++ _) from h) with h | ⟨p', rfl, g⟩
  · rw [rn_pre h]
    refine ⟨r7_bad _ _ _, ?_⟩
    have hl := pre_len h
    rw [wn_len] at hl
    have : p = [] := List.length_eq_zero_iff.1 (by omega)
    subst this
    show (0 : Int) ≠ 8
    decide
  · rw [rn1_ok (nOk_iff.2 (by omega))]
    exact ⟨r7_pre hk h3 g, show k ≠ 8 by omega⟩

theorem rP_ok : ∀ (qs ps : List (Rose Lb)) (r : List Int), qs.all okR = true → rP qs.length (qs.flatMap wR ++ r) .nil ps = (r, .nil, ps ++ qs)
  | [], ps, r, _ => by simp [rP]
  | q :: qs, ps, r, h => by
    rw [List.all_cons] at h
    obtain ⟨h1, h2⟩ := ands h
    rw [List.flatMap_cons, List.append_assoc]
    obtain ⟨e1, e2, e3, _⟩ := part_ok h1 (qs.flatMap wR ++ r)
    show rP (qs.length + 1) _ _ _ = _
    unfold rP
    rw [show Err.nil.isNil = true from rfl, cond_true, e1]
    dsimp only
    rw [e2]
    dsimp only
    rw [rP_ok qs _ r h2, List.append_assoc]
    have : Rose.node (q.lab.1, q.lab.2.1, q.lab.2.2.1, q.lab.2.2.2.1, q.lab.2.2.2.2.1, q.lab.2.2.2.2.2.1, q.lab.2.2.2.2.2.2.1, ()) [] = q := by
      rw [← e3]
      cases q; rfl
    rw [this]; rfl
theorem rP_pre : ∀ (qs ps : List (Rose Lb)) (p : List Int), qs.all okR = true → Pre p (qs.flatMap wR) → (rP qs.length p .nil ps).2.1 = BAD 2
  | [], ps, p, _, h => (pre_nil h).elim
  | q :: qs, ps, p, hq, h => by
    rw [List.all_cons] at hq
    obtain ⟨h1, h2⟩ := ands hq
    rw [List.flatMap_cons] at h
    show (rP (qs.length + 1) p .nil ps).2.1 = _
    unfold rP
    rw [show Err.nil.isNil = true from rfl, cond_true]
    dsimp only
    rcases pre_app h with h | ⟨p', rfl, g⟩
    · rw [(part_pre h1 h).1, rP_bad]
    · obtain ⟨e1, e2, _, _⟩ := part_ok h1 p'
      rw [e1]
      dsimp only
      rw [e2]
      exact rP_pre qs _ p' h2 g

theorem rC_ok {k : Int} {nm ot tx : List Int} {ak : Int} {wo : List Int} {mo : Int} {ps : List (Rose Lb)} (ho : okC k nm ot tx ak wo mo ps = true) (r : List Int) :
    rC (wC k nm ot tx ak wo mo ps ++ r) = ⟨k, nm, ot, tx, ak, mo, r, .nil, wo, ps⟩ := by
  unfold okC at ho
  unfold wC
  by_cases h8 : k = 8
  · subst h8
    rw [show decide ((8 : Int) = 8) = true from rfl, cond_true] at ho ⊢
    obtain ⟨h1, h2⟩ := ands ho
    obtain ⟨h2, h3⟩ := ands h2
    have hl := nOk_iff.1 h2
    have e1 : rn 1 (wn 1 8 ++ (wn 1 (ps.length : Int) ++ ps.flatMap wR) ++ r) .nil = (8, wn 1 (ps.length : Int) ++ (ps.flatMap wR ++ r), .nil) := by
      rw [List.append_assoc, List.append_assoc, rn1_ok (by decide)]
    rw [rC_8 _ (by rw [e1]), e1]
    dsimp only
    rw [rn1_ok (nOk_iff.2 (by omega))]
    dsimp only
    rw [decide_eq_false (by omega), cond_false, show Int.toNat (ps.length : Int) = ps.length from rfl, rP_ok ps [] r h3]
    unfold restB at h1
    obtain ⟨a1, h1⟩ := ands h1
    obtain ⟨a2, h1⟩ := ands h1
    obtain ⟨a3, h1⟩ := ands h1
    obtain ⟨a4, h1⟩ := ands h1
    obtain ⟨a5, h1⟩ := ands h1
    obtain ⟨a6, a7⟩ := ands h1
    simp only [Int.reduceEq, Int.reduceLE, decide_true, decide_false, Bool.and_false, Bool.false_or, Bool.or_false, decide_eq_true_eq] at a1 a2 a3 a4 a5 a6
    have a5' : wo = [] := List.length_eq_zero_iff.1 (by omega)
    subst a1 a2 a3 a4 a5' a6
    rfl
  · rw [decide_eq_false h8, cond_false] at ho ⊢
    obtain ⟨e1, e2, e3, e4⟩ := part_ok ho r
    rw [rC_7 _ (by rw [e1]; exact h8), e1]
    dsimp only
    rw [e2, e3]
theorem rC_pre {k : Int} {nm ot tx : List Int} {ak : Int} {wo : List Int} {mo : Int} {ps : List (Rose Lb)} (ho : okC k nm ot tx ak wo mo ps = true) {p : List Int} (h : Pre p (wC k nm ot tx ak wo mo ps)) :
    (rC p).e = BAD 2 := by
  unfold okC at ho
  unfold wC at h
  by_cases h8 : k = 8
  · subst h8
    rw [show decide ((8 : Int) = 8) = true from rfl, cond_true] at ho h
    obtain ⟨h1, h2⟩ := ands ho
    obtain ⟨h2, h3⟩ := ands h2
    have hl := nOk_iff.1 h2
    rcases pre_app h with h | ⟨p', rfl, g⟩
    · have hl := pre_len h
      rw [wn_len] at hl
      have : p = [] := List.length_eq_zero_iff.1 (by omega)
      subst this
      rfl
    · have e1 : rn 1 (wn 1 8 ++ p') .nil = (8, p', .nil) := rn1_ok (by decide) _
      rw [rC_8 _ (by rw [e1]), e1]
      dsimp only
      rcases pre_app g with h | ⟨p'', rfl, g2⟩
      · have hl := pre_len h
        rw [wn_len] at hl
        have : p' = [] := List.length_eq_zero_iff.1 (by omega)
        subst this
        rfl
      · rw [rn1_ok (nOk_iff.2 (by omega))]
        dsimp only
        rw [decide_eq_false (by omega), cond_false, show Int.toNat (ps.length : Int) = ps.length from rfl]
        exact rP_pre ps [] p'' h3 g2
  · rw [decide_eq_false h8, cond_false] at ho h
    obtain ⟨e1, e2⟩ := part_pre ho h
    rw [rC_7 _ e2]
    exact e1
end Go.Ab.T

/- The wire: the law of what is written and read back. -/
namespace Go.Ab.T
open Go Go.Ab
set_option linter.unusedVariables false
set_option linter.unusedSimpArgs false

theorem rN_ok : ∀ (qs ns : List (List Int)) (r : List Int), qs.all tOk = true → rN qs.length (flatT qs ++ r) .nil ns = (r, .nil, ns ++ qs)
  | [], ps, r, _ => by simp [rN, flatT]
  | q :: qs, ps, r, h => by
    rw [List.all_cons] at h
    obtain ⟨h1, h2⟩ := ands h
    have : flatT (q :: qs) ++ r = wt q ++ (flatT qs ++ r) := by unfold flatT; rw [List.flatMap_cons, List.append_assoc]
    rw [this]
    show rN (qs.length + 1) _ _ _ = _
    unfold rN
    rw [show Err.nil.isNil = true from rfl, cond_true, rt_ok h1]
    dsimp only
    rw [rN_ok qs _ r h2, List.append_assoc]; rfl
theorem rN_pre : ∀ (qs ns : List (List Int)) (p : List Int), qs.all tOk = true → Pre p (flatT qs) → (rN qs.length p .nil ns).2.1 = BAD 2
  | [], ps, p, _, h => (pre_nil h).elim
  | q :: qs, ps, p, hq, h => by
    rw [List.all_cons] at hq
    obtain ⟨h1, h2⟩ := ands hq
    have : flatT (q :: qs) = wt q ++ flatT qs := by unfold flatT; rw [List.flatMap_cons]
    rw [this] at h
    show (rN (qs.length + 1) p .nil ps).2.1 = _
    unfold rN
    rw [show Err.nil.isNil = true from rfl, cond_true]
    dsimp only
    rcases pre_app h with h | ⟨p', rfl, g⟩
    · rw [rt_pre h1 h, rN_bad]
    · rw [rt_ok h1]
      exact rN_pre qs _ p' h2 g

theorem rY_ok {en at_ pt : Int} {yes : Bool} {wo tx : List Int} {ns : List (List Int)} (ho : okY en at_ pt wo tx ns = true) (r : List Int) :
    rY (wY en at_ pt yes wo tx ns ++ r) = ⟨en, at_, pt, yes, tx, r, .nil, wo, ns⟩ := by
  unfold okY at ho
  obtain ⟨h1, ho⟩ := ands ho
  obtain ⟨h2, ho⟩ := ands ho
  obtain ⟨h3, ho⟩ := ands ho
  obtain ⟨h4, ho⟩ := ands ho
  obtain ⟨h5, ho⟩ := ands ho
  obtain ⟨h6, h7⟩ := ands ho
  have hy : nOk (bif yes then 1 else 0) 255 = true := by cases yes <;> rfl
  unfold wY rY
  simp only [List.append_assoc]
  rw [rn1_ok h1]
  dsimp only
  rw [rn2_ok h2]
  dsimp only
  rw [rn1_ok h3]
  dsimp only
  rw [rn1_ok hy]
  dsimp only
  rw [show (bif decide (1 < (bif yes then (1 : Int) else 0)) then rf 3 Err.nil else Err.nil) = Err.nil by cases yes <;> rfl, rt_ok h4]
  dsimp only
  rw [rt_ok h5]
  dsimp only
  rw [rn1_ok h6]
  dsimp only
  rw [show Int.toNat (ns.length : Int) = ns.length from rfl, rN_ok ns [] r h7, show decide ((bif yes then (1 : Int) else 0) = 1) = yes by cases yes <;> rfl]
  rfl

theorem rY_pre {en at_ pt : Int} {yes : Bool} {wo tx : List Int} {ns : List (List Int)} (ho : okY en at_ pt wo tx ns = true) {p : List Int} (h : Pre p (wY en at_ pt yes wo tx ns)) :
    (rY p).e = BAD 2 := by
  unfold okY at ho
  obtain ⟨h1, ho⟩ := ands ho
  obtain ⟨h2, ho⟩ := ands ho
  obtain ⟨h3, ho⟩ := ands ho
  obtain ⟨h4, ho⟩ := ands ho
  obtain ⟨h5, ho⟩ := ands ho
  obtain ⟨h6, h7⟩ := ands ho
  have hy : nOk (bif yes then 1 else 0) 255 = true := by cases yes <;> rfl
  unfold wY at h
  unfold rY
  dsimp only
  have z : ∀ b : List Int, (bif decide ((1 : Int) < (0, b, BAD 2).1) then rf 3 (0, b, BAD 2).2.2 else (0, b, BAD 2).2.2) = BAD 2 := fun b => rfl
  have e0 : ∀ n (b : List Int) (k : Int), (rn n b (BAD k)).2.2 = BAD k := fun _ _ _ => rfl
  have e1 : ∀ (b : List Int) (k : Int), (rt b (BAD k)).2.2 = BAD k := fun _ _ => rfl
  have e2 : ∀ n (b : List Int) (k : Int) ns, (rN n b (BAD k) ns).2.1 = BAD k := fun n b k ns => by rw [rN_bad]
  have e3 : ∀ (b : Bool) (k : Int), (bif b then rf 3 (BAD k) else BAD k) = BAD k := fun b k => by cases b <;> rfl
  rcases pre_app h with h | ⟨p1, rfl, g1⟩
  · rw [rn_pre h]; simp only [e0, e1, e2, e3]
  rw [rn1_ok h1]
  dsimp only
  rcases pre_app g1 with h | ⟨p2, rfl, g2⟩
  · rw [rn_pre h]; simp only [e0, e1, e2, e3]
  rw [rn2_ok h2]
  dsimp only
  rcases pre_app g2 with h | ⟨p3, rfl, g3⟩
  · rw [rn_pre h]; simp only [e0, e1, e2, e3]
  rw [rn1_ok h3]
  dsimp only
  rcases pre_app g3 with h | ⟨p4, rfl, g4⟩
  · rw [rn_pre h]; simp only [e0, e1, e2, e3]
  rw [rn1_ok hy]
  dsimp only
  rw [show (bif decide (1 < (bif yes then (1 : Int) else 0)) then rf 3 Err.nil else Err.nil) = Err.nil by cases yes <;> rfl]
  rcases pre_app g4 with h | ⟨p5, rfl, g5⟩
  · rw [rt_pre h4 h]; simp only [e0, e1, e2, e3]
  rw [rt_ok h4]
  dsimp only
  rcases pre_app g5 with h | ⟨p6, rfl, g6⟩
  · rw [rt_pre h5 h]; simp only [e0, e1, e2, e3]
  rw [rt_ok h5]
  dsimp only
  rcases pre_app g6 with h | ⟨p7, rfl, g7⟩
  · rw [rn_pre h]; simp only [e0, e1, e2, e3]
  rw [rn1_ok h6]
  dsimp only
  rw [show Int.toNat (ns.length : Int) = ns.length from rfl]
  exact rN_pre ns [] p7 h7 g7

/-! ### sameness -/
theorem same_l4 {R : Type} (self : Int → List Int → List Int → List Int → Int → List Int → Int → List (Rose Lb) → Int → List Int → List Int → List Int → Int → List Int → Int → List (Rose Lb) → (Bool → Option R) → Option R) (kf : Nat) (ps : List (Rose Lb)) (hl : ps.length ≤ 1000)
    (hs : ∀ q ∈ ps, ∀ K, self q.lab.1 q.lab.2.1 q.lab.2.2.1 q.lab.2.2.2.1 q.lab.2.2.2.2.1 q.lab.2.2.2.2.2.1 q.lab.2.2.2.2.2.2.1 q.kids q.lab.1 q.lab.2.1 q.lab.2.2.1 q.lab.2.2.2.1 q.lab.2.2.2.2.1 q.lab.2.2.2.2.2.1 q.lab.2.2.2.2.2.2.1 q.kids K = K true) (Kr : Bool → Option R) (Ke : Option R) : ∀ (m k i : Nat), i + m = ps.length → m < k →
    ref29_SameCmd_l4 self kf k ps ps Kr Ke (i : Int) = Ke
  | m, 0, i, _, h => by omega
  | 0, k + 1, i, hi, _ => by
    have : decide ((i : Int) < (ps.length : Int)) = false := decide_eq_false (by omega)
    unfold ref29_SameCmd_l4 ref29_SameCmd_l4_b
    rw [this, cond_false]
  | m + 1, k + 1, i, hi, hk => by
    have g1 : decide ((i : Int) < (ps.length : Int)) = true := decide_eq_true (by omega)
    have g2 : decide (0 ≤ (i : Int)) = true := decide_eq_true (by omega)
    have hli : i < ps.length := by omega
    unfold ref29_SameCmd_l4 ref29_SameCmd_l4_b
    rw [g1, g2, cond_true, gd_true rfl, gd_true rfl, gd_true rfl, gd_true rfl, wi1 i (by omega), show Int.toNat (i : Int) = i from rfl, getD_at ps i hli]
    refine (hs ps[i] (List.getElem_mem hli) _).trans ?_
    rw [Bool.not_true, cond_false]
    exact same_l4 self kf ps hl hs Kr Ke m k (i + 1) (by omega) (by omega)
theorem same_b {R : Type} (kf : Nat) (k : Int) (nm ot tx : List Int) (ak : Int) (wo : List Int) (mo : Int) (ps : List (Rose Lb)) (hl : ps.length ≤ 1000) (hkf : 1001 ≤ kf)
    (hs : ∀ q ∈ ps, ∀ K : Bool → Option R, ref29_SameCmd kf q.lab.1 q.lab.2.1 q.lab.2.2.1 q.lab.2.2.2.1 q.lab.2.2.2.2.1 q.lab.2.2.2.2.2.1 q.lab.2.2.2.2.2.2.1 q.kids q.lab.1 q.lab.2.1 q.lab.2.2.1 q.lab.2.2.2.1 q.lab.2.2.2.2.1 q.lab.2.2.2.2.2.1 q.lab.2.2.2.2.2.2.1 q.kids K = K true) (K : Bool → Option R) :
    ref29_SameCmd (kf + 1) k nm ot tx ak wo mo ps k nm ot tx ak wo mo ps K = K true := by
  unfold ref29_SameCmd ref29_SameCmd_b
  simp only [decide_true, Bool.not_true, cond_false]
  exact same_l4 (ref29_SameCmd kf) kf ps hl hs _ _ ps.length kf 0 (by omega) (by omega)
theorem same_ok {R : Type} (kf : Nat) (hkf : 1010 ≤ kf) (k : Int) (nm ot tx : List Int) (ak : Int) (wo : List Int) (mo : Int) (ps : List (Rose Lb)) (ho : okC k nm ot tx ak wo mo ps = true) (K : Bool → Option R) :
    ref29_SameCmd kf k nm ot tx ak wo mo ps k nm ot tx ak wo mo ps K = K true := by
  obtain ⟨kf, rfl⟩ : ∃ kf', kf = kf' + 2 := ⟨kf - 2, by omega⟩
  have hps : ps.length ≤ 20 ∧ ∀ q ∈ ps, q.kids = [] := by
    unfold okC at ho
    by_cases h8 : k = 8
    · rw [decide_eq_true h8, cond_true] at ho
      obtain ⟨h1, h2⟩ := ands ho
      obtain ⟨h2, h3⟩ := ands h2
      have := nOk_iff.1 h2
      exact ⟨by omega, fun q hq => (part_ok (List.all_eq_true.1 h3 q hq) []).2.2.1⟩
    · rw [decide_eq_false h8, cond_false] at ho
      rw [(part_ok ho []).2.2.1]
      exact ⟨by simp, fun q hq => absurd hq List.not_mem_nil⟩
  refine same_b (kf + 1) k nm ot tx ak wo mo ps (by omega) (by omega) (fun q hq K => ?_) K
  rw [hps.2 q hq]
  exact same_b kf _ _ _ _ _ _ _ [] (by simp) (by omega) (fun q hq => absurd hq List.not_mem_nil) K

theorem sameR_l4 {R : Type} (kf : Nat) (ps : List (List Int)) (hl : ps.length ≤ 1000) (Kr : Bool → Option R) (Ke : Option R) : ∀ (m k i : Nat), i + m = ps.length → m < k →
    ref25_SameReply_l4 kf k ps ps Kr Ke (i : Int) = Ke
  | m, 0, i, _, h => by omega
  | 0, k + 1, i, hi, _ => by
    have : decide ((i : Int) < (ps.length : Int)) = false := decide_eq_false (by omega)
    unfold ref25_SameReply_l4 ref25_SameReply_l4_b
    rw [this, cond_false]
  | m + 1, k + 1, i, hi, hk => by
    have g1 : decide ((i : Int) < (ps.length : Int)) = true := decide_eq_true (by omega)
    have g2 : decide (0 ≤ (i : Int)) = true := decide_eq_true (by omega)
    unfold ref25_SameReply_l4 ref25_SameReply_l4_b
    rw [g1, g2, cond_true, gd_true rfl, gd_true rfl, gd_true rfl, gd_true rfl, wi1 i (by omega), decide_eq_true rfl, Bool.not_true, cond_false]
    exact sameR_l4 kf ps hl Kr Ke m k (i + 1) (by omega) (by omega)
theorem sameR_ok {R : Type} (kf : Nat) (hkf : 1010 ≤ kf) (en at_ pt : Int) (yes : Bool) (wo tx : List Int) (ns : List (List Int)) (hl : ns.length ≤ 1000) (K : Bool → Option R) :
    ref25_SameReply kf en at_ pt yes wo tx ns en at_ pt yes wo tx ns K = K true := by
  unfold ref25_SameReply ref25_SameReply_b ref11_SameVerdict ref11_SameVerdict_b
  simp only [decide_true, Bool.not_true, cond_false, cond_true]
  exact sameR_l4 kf ns hl _ _ ns.length kf 0 (by omega) (by omega)

/-! ### light -/
theorem bulkR_pos {α : Type} (f : α → Nat) (q : Rose α) : bulkRs f q.kids + 1 ≤ bulkR f q := by
  cases q with
  | node x ks => show bulkRs f ks + 1 ≤ f x + (bulkRs f ks + 1); omega
theorem bulkRs_mem {α : Type} (f : α → Nat) : ∀ {l : List (Rose α)} {q : Rose α}, q ∈ l → bulkR f q ≤ bulkRs f l
  | x :: r, q, h => by
    rcases List.mem_cons.1 h with rfl | h
    · show _ ≤ bulkR f q + bulkRs f r; omega
    · have := bulkRs_mem f h; show _ ≤ bulkR f x + bulkRs f r; omega
theorem light_l4 {R : Type} (self : Int → List Int → List Int → List Int → Int → List Int → Int → List (Rose Lb) → (Bool → Option R) → Option R) (kf : Nat) (ps : List (Rose Lb)) (hl : ps.length ≤ 1000)
    (hs : ∀ q ∈ ps, ∃ β : Bool, ∀ K, self q.lab.1 q.lab.2.1 q.lab.2.2.1 q.lab.2.2.2.1 q.lab.2.2.2.2.1 q.lab.2.2.2.2.2.1 q.lab.2.2.2.2.2.2.1 q.kids K = K β) : ∀ (m k i : Nat), i + m = ps.length → m < k →
    ∃ β : Bool, ∀ (Kr : Bool → Option R) (Ke : Option R), law29_Light_l4 self kf k ps Kr Ke (i : Int) = bif β then Ke else Kr false
  | m, 0, i, _, h => by omega
  | 0, k + 1, i, hi, _ => by
    have : decide ((i : Int) < (ps.length : Int)) = false := decide_eq_false (by omega)
    refine ⟨true, fun Kr Ke => ?_⟩
    unfold law29_Light_l4 law29_Light_l4_b
    rw [this, cond_false, cond_true]
  | m + 1, k + 1, i, hi, hk => by
    have g1 : decide ((i : Int) < (ps.length : Int)) = true := decide_eq_true (by omega)
    have g2 : decide (0 ≤ (i : Int)) = true := decide_eq_true (by omega)
    have hli : i < ps.length := by omega
    obtain ⟨β, hβ⟩ := hs ps[i] (List.getElem_mem hli)
    obtain ⟨γ, hγ⟩ := light_l4 self kf ps hl hs m k (i + 1) (by omega) (by omega)
    refine ⟨β && γ, fun Kr Ke => ?_⟩
    unfold law29_Light_l4 law29_Light_l4_b
    rw [g1, g2, cond_true, gd_true rfl, gd_true rfl, wi1 i (by omega), show Int.toNat (i : Int) = i from rfl, getD_at ps i hli]
    refine (hβ _).trans ?_
    rw [hγ]
    cases β <;> rfl
theorem light_ok {R : Type} (f : Lb → Nat) : ∀ (N kf : Nat) (k : Int) (nm ot tx : List Int) (ak : Int) (wo : List Int) (mo : Int) (ps : List (Rose Lb)), bulkRs f ps ≤ N → N + 30 ≤ kf → ∃ β : Bool, ∀ K : Bool → Option R, law29_Light kf k nm ot tx ak wo mo ps K = K β
  | N, 0, k, nm, ot, tx, ak, wo, mo, ps, _, h => by omega
  | N, kf + 1, k, nm, ot, tx, ak, wo, mo, ps, hb, hk => by
    by_cases h25 : 25 < ps.length
    · have hd : decide (25 < (ps.length : Int)) = true := decide_eq_true (by omega)
      refine ⟨false, fun K => ?_⟩
      unfold law29_Light law29_Light_b
      simp only [hd, cond_true]
      cases decide (2000 < (nm.length : Int)) <;> cases decide (2000 < (ot.length : Int)) <;> cases decide (2000 < (tx.length : Int)) <;> cases decide (2000 < (wo.length : Int)) <;> rfl
    · have hd : decide (25 < (ps.length : Int)) = false := decide_eq_false (by omega)
      have hs : ∀ q ∈ ps, ∃ β : Bool, ∀ K : Bool → Option R, law29_Light kf q.lab.1 q.lab.2.1 q.lab.2.2.1 q.lab.2.2.2.1 q.lab.2.2.2.2.1 q.lab.2.2.2.2.2.1 q.lab.2.2.2.2.2.2.1 q.kids K = K β := by
        intro q hq
        have h1 := bulkR_pos f q
        have h2 := bulkRs_mem f hq
        exact light_ok f (N - 1) kf _ _ _ _ _ _ _ _ (by omega) (by omega)
      obtain ⟨γ, hγ⟩ := light_l4 (law29_Light kf) kf ps (by omega) hs ps.length kf 0 (by omega) (by omega)
      refine ⟨(!decide (2000 < (nm.length : Int)) && (!decide (2000 < (ot.length : Int)) && (!decide (2000 < (tx.length : Int)) && !decide (2000 < (wo.length : Int))))) && γ, fun K => ?_⟩
      unfold law29_Light law29_Light_b
      simp only [hd]
      have hγ' := hγ (fun v20 => K v20) (K true)
      rw [show ((0 : Nat) : Int) = 0 from rfl] at hγ'
      rw [hγ']
      cases decide (2000 < (nm.length : Int)) <;> cases decide (2000 < (ot.length : Int)) <;> cases decide (2000 < (tx.length : Int)) <;> cases decide (2000 < (wo.length : Int)) <;> cases γ <;> rfl
end Go.Ab.T

/- The wire: the law of what is written and read back, whole. -/
namespace Go.Ab.T
open Go Go.Ab
set_option linter.unusedVariables false
set_option linter.unusedSimpArgs false

theorem place_ok {R : Type} (c : Int) (hc : -9223372036854775808 ≤ c ∧ c ≤ 9223372036854775807) (n : Nat) (hn : 0 < n) (hn2 : n ≤ 1048576) : ∃ p : Nat, p < n ∧ ∀ K : Int → Option R, law0_Place c (n : Int) K = K (p : Int) := by
  have h1 : decide ((n : Int) < 1) = false := decide_eq_false (by omega)
  have h2 : decide ((n : Int) ≠ 0) = true := decide_eq_true (by omega)
  have hlt : Int.tmod c n < n := Int.tmod_lt_of_pos c (by omega)
  have hgt : -(n : Int) < Int.tmod c n := by
    have := Int.tmod_lt_of_pos (-c) (show (0 : Int) < n by omega)
    rw [Int.neg_tmod] at this
    omega
  by_cases h : Int.tmod c n < 0
  · refine ⟨(Int.tmod c n + n).toNat, by omega, fun K => ?_⟩
    unfold law0_Place law0_Place_b
    simp only [h1, h2, cond_false, gd, cond_true]
    have hw : IntKind.i64.wrap (Int.tmod c n + n) = Int.tmod c n + n := by rw [IntKind.wrap_i64]; omega
    simp only [h, decide_true, cond_true, hw]
    congr 1; omega
  · refine ⟨(Int.tmod c n).toNat, by omega, fun K => ?_⟩
    unfold law0_Place law0_Place_b
    simp only [h1, h2, cond_false, gd, cond_true]
    simp only [h, decide_false, cond_false]
    congr 1; omega


theorem isB_app {a b : List Int} (ha : isB a) (hb : isB b) : isB (a ++ b) := fun x hx => (List.mem_append.1 hx).elim (ha x) (hb x)
theorem isB_nil : isB [] := fun x hx => absurd hx List.not_mem_nil
theorem wn_isB (n : Nat) (v : Int) : isB (wn n v) := le_isB _ _
theorem wt_isB {s : List Int} (h : isB s) : isB (wt s) := by
  unfold wt
  cases tOk s
  · exact isB_nil
  · exact isB_app (le_isB _ _) h
theorem flatT_isB {l : List (List Int)} (h : ∀ s ∈ l, isB s) : isB (flatT l) := by
  intro x hx
  unfold flatT at hx
  obtain ⟨s, hs, hx⟩ := List.mem_flatMap.1 hx
  exact wt_isB (h s hs) x hx
theorem wP_isB (k : Int) {nm ot tx : List Int} (ak : Int) {wo : List Int} (mo : Int) (ps : List (Rose Lb)) (h1 : isB nm) (h2 : isB ot) (h3 : isB tx) (h4 : isB wo) : isB (wP k nm ot tx ak wo mo ps) := by
  unfold wP wF
  cases (decide (1 ≤ k) && decide (k ≤ 7)) && restB k nm ot tx ak wo mo ps
  · exact isB_nil
  · refine isB_app (wn_isB _ _) ?_
    cases decide (k = 1) || decide (k = 2)
    · cases decide (k = 3) || decide (k = 6)
      · cases decide (k = 4)
        · cases decide (k = 5)
          · exact isB_app (wt_isB h1) (wn_isB _ _)
          · exact isB_app (wt_isB h1) (wt_isB h4)
        · exact isB_app (wn_isB _ _) (isB_app (wt_isB h1) (wt_isB h2))
      · exact wt_isB h1
    · exact isB_app (wt_isB h1) (wt_isB h3)
def pB (q : Rose Lb) : Prop := isB q.lab.2.1 ∧ isB q.lab.2.2.1 ∧ isB q.lab.2.2.2.1 ∧ isB q.lab.2.2.2.2.2.1
theorem wC_isB (k : Int) {nm ot tx : List Int} (ak : Int) {wo : List Int} (mo : Int) {ps : List (Rose Lb)} (h1 : isB nm) (h2 : isB ot) (h3 : isB tx) (h4 : isB wo) (hp : ∀ q ∈ ps, pB q) : isB (wC k nm ot tx ak wo mo ps) := by
  unfold wC
  cases decide (k = 8)
  · exact wP_isB k ak mo ps h1 h2 h3 h4
  · refine isB_app (wn_isB _ _) (isB_app (wn_isB _ _) ?_)
    intro x hx
    obtain ⟨q, hq, hx⟩ := List.mem_flatMap.1 hx
    obtain ⟨a, b, c, d⟩ := hp q hq
    exact wP_isB _ _ _ _ a b c d x hx
theorem wC_len {k : Int} {nm ot tx : List Int} {ak : Int} {wo : List Int} {mo : Int} {ps : List (Rose Lb)} (ho : okC k nm ot tx ak wo mo ps = true) : 1 ≤ (wC k nm ot tx ak wo mo ps).length ∧ (wC k nm ot tx ak wo mo ps).length ≤ 50000 := by
  unfold okC at ho
  unfold wC
  by_cases h8 : k = 8
  · rw [decide_eq_true h8, cond_true] at ho ⊢
    obtain ⟨h1, h2⟩ := ands ho
    obtain ⟨h2, h3⟩ := ands h2
    have hl := nOk_iff.1 h2
    have hf := flat_len ps
    simp only [List.length_append, wn_len]
    have : ps.length * 2020 ≤ 20 * 2020 := Nat.mul_le_mul_right _ (by omega)
    omega
  · rw [decide_eq_false h8, cond_false] at ho ⊢
    have := wP_len k nm ot tx ak wo mo ps
    unfold okP at ho
    obtain ⟨h1, h2⟩ := ands ho
    obtain ⟨h2, h3⟩ := ands h2
    refine ⟨?_, by omega⟩
    unfold wP
    rw [h1, h2]
    show 1 ≤ (wn 1 k ++ _).length
    rw [List.length_append, wn_len]; omega
theorem wY_isB (en at_ pt : Int) (yes : Bool) {wo tx : List Int} {ns : List (List Int)} (h1 : isB wo) (h2 : isB tx) (h3 : ∀ s ∈ ns, isB s) : isB (wY en at_ pt yes wo tx ns) :=
  isB_app (wn_isB _ _) (isB_app (wn_isB _ _) (isB_app (wn_isB _ _) (isB_app (wn_isB _ _) (isB_app (wt_isB h1) (isB_app (wt_isB h2) (isB_app (wn_isB _ _) (flatT_isB h3)))))))
theorem wY_len {en at_ pt : Int} {yes : Bool} {wo tx : List Int} {ns : List (List Int)} (ho : okY en at_ pt wo tx ns = true) : 1 ≤ (wY en at_ pt yes wo tx ns).length ∧ (wY en at_ pt yes wo tx ns).length ≤ 300000 ∧ ns.length ≤ 255 := by
  unfold okY at ho
  obtain ⟨h1, ho⟩ := ands ho
  obtain ⟨h2, ho⟩ := ands ho
  obtain ⟨h3, ho⟩ := ands ho
  obtain ⟨h4, ho⟩ := ands ho
  obtain ⟨h5, ho⟩ := ands ho
  obtain ⟨h6, h7⟩ := ands ho
  have hl := nOk_iff.1 h6
  have a1 := wt_len wo
  have a2 := wt_len tx
  have a3 := flatT_len ns
  have : ns.length * 1002 ≤ 255 * 1002 := Nat.mul_le_mul_right _ (by omega)
  unfold wY
  simp only [List.length_append, wn_len]
  omega
theorem pre_take {b : List Int} {p : Nat} (h : p < b.length) : Pre (b.take p) b := ⟨b.drop p, (List.take_append_drop p b).symm, fun h2 => by have := congrArg List.length h2; rw [List.length_drop] at this; simp at this; omega⟩

theorem reply_back {R : Type} (kf : Nat) (hkf : 1010 ≤ kf) (v9 v10 v11 : Int) (v12 : Bool) (v13 v14 : List Int) (v15 : List (List Int)) (v16 : List Int) (v17 : Int) (hc : -9223372036854775808 ≤ v17 ∧ v17 ≤ 9223372036854775807)
    (h1 : isB v13) (h2 : isB v14) (h3 : ∀ s ∈ v15, isB s) (h4 : isB v16) (hl : v16.length ≤ 300) (K : Bool → Option R) :
    (wire_PutReply kf ([] : (List Int)) v9 v10 v11 v12 v13 v14 v15 (fun (v22 : Int) (v23 : (List Int)) =>
           bif (!(decide (v22 = 0))) then
           (K (decide (v22 = 1)))
           else (gd (decide (([] : List Int).length + v23.length < SMALL))
            (gd (decide ((([] : List Int) ++ v23).length + v16.length < SMALL))
             (wire_TakeReply kf ((([] : List Int) ++ v23) ++ v16) (fun (v24 : Int) (v25 : Int) (v26 : Int) (v27 : Bool) (v28 : (List Int)) (v29 : Int) (v30 : Int) (v31 : (List Int)) (v32 : (List (List Int))) =>
               law0_Place v17 (v23.length : Int) (fun (v33 : Int) =>
                gd (decide (0 ≤ v33))
                (gd (decide (v33 ≤ (v23.length : Int)))
                 (wire_TakeReply kf (v23.take (Int.toNat v33)) (fun (v34 : Int) (v35 : Int) (v36 : Int) (v37 : Bool) (v38 : (List Int)) (v39 : Int) (v40 : Int) (v41 : (List Int)) (v42 : (List (List Int))) =>
                   bif decide (v30 = 0) then
                   (bif decide (v29 = (v23.length : Int)) then
                    (ref25_SameReply kf v24 v25 v26 v27 v31 v28 v32 v9 v10 v11 v12 v13 v14 v15 (fun (v43 : Bool) =>
                      bif v43 then
                      (bif decide (v40 = 2) then
                       (K (decide (v39 = 0)))
                       else (K false))
                      else (K false)))
                    else (K false))
                   else (K false))))))))))) = K true := by
  rw [putReply_ok kf (by omega) [] (by simp)]
  cases ho : okY v9 v10 v11 v13 v14 v15 with
  | false => rfl
  | true =>
    obtain ⟨l1, l2, l3⟩ := wY_len (yes := v12) ho
    have hB := wY_isB v9 v10 v11 v12 h1 h2 h3
    have hok := rY_ok (yes := v12) ho v16
    have hpre := fun p (h : Pre p (wY v9 v10 v11 v12 v13 v14 v15)) => rY_pre ho h
    rw [cond_true]
    generalize wY v9 v10 v11 v12 v13 v14 v15 = b at *
    rw [List.nil_append, show (!(decide ((0 : Int) = 0))) = false from rfl, cond_false, List.nil_append, gd_true (decide_eq_true (by show _ < 17179869184; simp; omega)), gd_true (decide_eq_true (by show _ < 17179869184; omega))]
    rw [takeReply_ok kf (by omega) _ ⟨isB_app hB h4, by rw [List.length_append]; omega⟩, hok]
    dsimp only
    rw [show (!(Err.isNil Err.nil)) = false from rfl, cond_false]
    obtain ⟨p, hp, hP⟩ := place_ok (R := R) v17 hc b.length (by omega) (by omega)
    rw [hP, gd_true (decide_eq_true (by omega)), gd_true (decide_eq_true (by omega)), show Int.toNat (p : Int) = p from rfl]
    rw [takeReply_ok kf (by omega) _ ⟨isB_take p hB, by rw [List.length_take]; omega⟩]
    dsimp only
    rw [hpre _ (pre_take hp), show (!(Err.isNil (BAD 2))) = true from rfl, cond_true, code_bad]
    rw [show IntKind.i64.wrap (((b ++ v16).length : Int) - (v16.length : Int)) = (b.length : Int) by rw [IntKind.wrap_i64, List.length_append]; omega]
    simp only [decide_true, cond_true]
    rw [sameR_ok kf hkf _ _ _ _ _ _ _ (by omega)]
    rfl

theorem back_ok {R : Type} (f : Lb → Nat) (kf : Nat) (hkf : 1100000 ≤ kf) (v1 : Int) (v2 v3 v4 : List Int) (v5 : Int) (v6 : List Int) (v7 : Int) (v8 : List (Rose Lb)) (v9 v10 v11 : Int) (v12 : Bool) (v13 v14 : List Int) (v15 : List (List Int)) (v16 : List Int) (v17 : Int) (hc : -9223372036854775808 ≤ v17 ∧ v17 ≤ 9223372036854775807)
    (hb : bulkRs f v8 ≤ 1048576) (c1 : isB v2) (c2 : isB v3) (c3 : isB v4) (c4 : isB v6) (c5 : ∀ q ∈ v8, pB q) (h1 : isB v13) (h2 : isB v14) (h3 : ∀ s ∈ v15, isB s) (h4 : isB v16) (K : Bool → Option R) :
    law29_WireBack kf v1 v2 v3 v4 v5 v6 v7 v8 v9 v10 v11 v12 v13 v14 v15 v16 v17 K = K true := by
  unfold law29_WireBack law29_WireBack_b
  rw [begun_ok kf (by omega), Bool.not_true, cond_false]
  dsimp only
  by_cases hl : 300 < (v16.length : Int)
  · rw [decide_eq_true hl, cond_true, cond_true]
  · rw [decide_eq_false hl, cond_false]
    obtain ⟨β, hβ⟩ := light_ok (R := R) f 1048576 kf v1 v2 v3 v4 v5 v6 v7 v8 hb (by omega)
    rw [hβ]
    have hr := reply_back kf (by omega) v9 v10 v11 v12 v13 v14 v15 v16 v17 hc h1 h2 h3 h4 (by omega) K
    simp only [hr]
    have main : (wire_PutCmd kf [] v1 v2 v3 v4 v5 v6 v7 v8 fun v20 v21 => bif decide (v20 = 0) then
          (gd (decide (([] : List Int).length + v21.length < SMALL))
           (gd (decide ((([] : List Int) ++ v21).length + v16.length < SMALL))
            (wire_TakeCmd kf ((([] : List Int) ++ v21) ++ v16) (fun (v45 : Int) (v46 : (List Int)) (v47 : (List Int)) (v48 : (List Int)) (v49 : Int) (v50 : Int) (v51 : Int) (v52 : Int) (v53 : (List Int)) (v54 : (List (Rose Lb))) =>
              law0_Place v17 (v21.length : Int) (fun (v55 : Int) =>
               gd (decide (0 ≤ v55))
               (gd (decide (v55 ≤ (v21.length : Int)))
                (wire_TakeCmd kf (v21.take (Int.toNat v55)) (fun (v56 : Int) (v57 : (List Int)) (v58 : (List Int)) (v59 : (List Int)) (v60 : Int) (v61 : Int) (v62 : Int) (v63 : Int) (v64 : (List Int)) (v65 : (List (Rose Lb))) =>
                  (bif (!(decide (v52 = 0))) then
                   (bif true then K false else K true)
                   else (bif (!(decide (v51 = (v21.length : Int)))) then
                    (bif true then K false else K true)
                    else (ref29_SameCmd kf v1 v2 v3 v4 v5 v6 v7 v8 v45 v46 v47 v48 v49 v53 v50 v54 (fun (v68 : Bool) =>
                      bif (!v68) then
                      (bif true then K false else K true)
                      else (bif (!(decide (v63 = 2))) then
                       (bif true then K false else K true)
                       else (bif (!(decide (v62 = 0))) then K false else K true)))))))))))))) else K true) = K true := by
      rw [putCmd_ok kf (by omega) [] (by simp)]
      cases ho : okC v1 v2 v3 v4 v5 v6 v7 v8 with
      | false => rfl
      | true =>
        obtain ⟨l1, l2⟩ := wC_len ho
        have hB := wC_isB v1 v5 v7 c1 c2 c3 c4 c5
        have hok := rC_ok ho v16
        have hpre := fun p (h : Pre p (wC v1 v2 v3 v4 v5 v6 v7 v8)) => rC_pre ho h
        rw [cond_true]
        generalize wC v1 v2 v3 v4 v5 v6 v7 v8 = b at *
        rw [List.nil_append, decide_eq_true rfl, cond_true, List.nil_append, gd_true (decide_eq_true (by show _ < 17179869184; simp; omega)), gd_true (decide_eq_true (by show _ < 17179869184; omega))]
        rw [takeCmd_ok kf (by omega) _ ⟨isB_app hB h4, by rw [List.length_append]; omega⟩, hok]
        dsimp only
        rw [show (!(Err.isNil Err.nil)) = false from rfl, cond_false]
        obtain ⟨p, hp, hP⟩ := place_ok (R := R) v17 hc b.length (by omega) (by omega)
        rw [hP, gd_true (decide_eq_true (by omega)), gd_true (decide_eq_true (by omega)), show Int.toNat (p : Int) = p from rfl]
        rw [takeCmd_ok kf (by omega) _ ⟨isB_take p hB, by rw [List.length_take]; omega⟩]
        dsimp only
        rw [hpre _ (pre_take hp), show (!(Err.isNil (BAD 2))) = true from rfl, cond_true, code_bad]
        rw [show IntKind.i64.wrap (((b ++ v16).length : Int) - (v16.length : Int)) = (b.length : Int) by rw [IntKind.wrap_i64, List.length_append]; omega]
        simp only [decide_true, Bool.not_true, cond_false, cond_true]
        rw [same_ok kf (by omega) _ _ _ _ _ _ _ _ ho]
        rfl
    cases β with
    | false => rfl
    | true =>
      rw [Bool.not_true, cond_false]
      cases decide (300 < (v15.length : Int)) with
      | true => rfl
      | false =>
        rw [cond_false]
        cases decide (2000 < (v14.length : Int)) with
        | true => rfl
        | false =>
          rw [cond_false]
          cases decide (2000 < (v13.length : Int)) with
          | true => rfl
          | false => exact main
end Go.Ab.T
