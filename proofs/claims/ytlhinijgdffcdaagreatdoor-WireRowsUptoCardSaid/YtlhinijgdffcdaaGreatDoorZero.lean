/- Zero values, nil slices that become owned, new blocks. -/
import Derived.Test.YtlhinijgdffcdaaGreatDoorStep
namespace Go.Ab
open Go
set_option linter.unusedVariables false
set_option linter.unusedSimpArgs false
theorem set_eq (tb : Tbl) (k : Nat) (e : Option Ent) : tb.set k e k = e := by simp [Tbl.set]
theorem set_ne (tb : Tbl) {k j : Nat} (h : j ≠ k) (e : Option Ent) : tb.set k e j = tb j := by simp [Tbl.set, h]
theorem sets_append (tb : Tbl) : ∀ (l m : List (Nat × Option Ent)), tb.sets (l ++ m) = (tb.sets l).sets m := by
 intro l
 induction l generalizing tb with
 | nil => intro m; rfl
 | cons p r ih => obtain ⟨k, e⟩ := p; intro m; exact ih (tb.set k e) m
theorem sets_other : ∀ (l : List (Nat × Option Ent)) (tb : Tbl) {k : Nat}, (∀ p ∈ l, p.1 ≠ k) → tb.sets l k = tb k
 | [], tb, k, _ => rfl
 | (j, e) :: r, tb, k, h => by
  rw [Tbl.sets, sets_other r (tb.set j e) (fun p hp => h p (List.mem_cons_of_mem _ hp))]
  exact set_ne tb (fun he => h (j, e) List.mem_cons_self he.symm) e
theorem sets_mem : ∀ (l : List (Nat × Option Ent)) (tb : Tbl) {k : Nat}, (∃ x, (k, x) ∈ l) → (k, tb.sets l k) ∈ l
 | [], tb, k, h => by obtain ⟨x, hx⟩ := h; simp at hx
 | (j, e) :: r, tb, k, h => by
  rw [Tbl.sets]
  by_cases hr : ∃ x, (k, x) ∈ r
  ·exact List.mem_cons_of_mem _ (sets_mem r _ hr)
  ·have hn : ∀ p ∈ r, p.1 ≠ k := by
    intro p hp he
    exact hr ⟨p.2, by rw [← he]; exact hp⟩
   rw [sets_other r _ hn]
   obtain ⟨x, hx⟩ := h
   rcases List.mem_cons.1 hx with hx | hx
   ·cases hx; rw [set_eq]; exact List.mem_cons_self
   ·exact absurd ⟨x, hx⟩ hr
theorem sets_cases (l : List (Nat × Option Ent)) (tb : Tbl) (k : Nat) : (k, tb.sets l k) ∈ l ∨ ((∀ p ∈ l, p.1 ≠ k) ∧ tb.sets l k = tb k) := by
 by_cases h : ∃ x, (k, x) ∈ l
 ·exact .inl (sets_mem l tb h)
 ·have hn : ∀ p ∈ l, p.1 ≠ k := by
   intro p hp he
   exact h ⟨p.2, by rw [← he]; exact hp⟩
  exact .inr ⟨hn, sets_other l tb hn⟩
def NilKeys (ep d lo hi : Nat) (L : List (Nat × Option Ent)) : Prop :=
 (∀ p ∈ L, ∃ j e, p = (mk ep d j, some (.buf e [] false)) ∧ lo ≤ j ∧ j < hi) ∧ ∀ k x y, (k, x) ∈ L → (k, y) ∈ L → x = y
theorem NilKeys.nil {ep d j : Nat} : NilKeys ep d j j [] := ⟨by simp, by simp⟩
theorem mk_inj {ep d i j : Nat} (h : mk ep d i = mk ep d j) : i = j := by unfold mk at h; omega
theorem NilKeys.append {ep d a b c : Nat} {L M : List (Nat × Option Ent)} (h : NilKeys ep d a b L) (k : NilKeys ep d b c M) (hab : a ≤ b) (hbc : b ≤ c) : NilKeys ep d a c (L ++ M) := by
 refine ⟨fun p hp => ?_, fun q x y hx hy => ?_⟩
 ·rcases List.mem_append.1 hp with hp | hp
  ·obtain ⟨j, e, h1, h2, h3⟩ := h.1 p hp; exact ⟨j, e, h1, h2, by omega⟩
  ·obtain ⟨j, e, h1, h2, h3⟩ := k.1 p hp; exact ⟨j, e, h1, by omega, h3⟩
 ·rcases List.mem_append.1 hx with hx | hx <;> rcases List.mem_append.1 hy with hy | hy
  ·exact h.2 q x y hx hy
  ·obtain ⟨i, e, h1, h2, h3⟩ := h.1 _ hx
   obtain ⟨j, f, k1, k2, k3⟩ := k.1 _ hy
   simp only [Prod.mk.injEq] at h1 k1
   have := mk_inj (h1.1.symm.trans k1.1); omega
  ·obtain ⟨i, e, h1, h2, h3⟩ := h.1 _ hy
   obtain ⟨j, f, k1, k2, k3⟩ := k.1 _ hx
   simp only [Prod.mk.injEq] at h1 k1
   have := mk_inj (h1.1.symm.trans k1.1); omega
  ·exact k.2 q x y hx hy
mutual
theorem nilOwn_keys (P : Program) (ep d : Nat) : ∀ (s : S) (t : TypeId) (j : Nat), j ≤ (nilOwn P ep d t s j).2.2 ∧ (j ≤ 60 → (nilOwn P ep d t s j).2.2 ≤ 60) ∧ NilKeys ep d j (nilOwn P ep d t s j).2.2 (nilOwn P ep d t s j).2.1
 | .nilsl, t, j => by
  simp only [nilOwn]
  split
  ·rename_i e he
   split
   ·rename_i hj
    refine ⟨by simp, fun _ => by simp; omega, ?_, ?_⟩
    ·intro p hp; simp at hp; subst hp; exact ⟨j, e, rfl, Nat.le_refl _, by simp⟩
    ·intro k x y hx hy; simp at hx hy; rw [hx.2, hy.2]
   ·exact ⟨Nat.le_refl _, fun h => h, NilKeys.nil⟩
  ·exact ⟨Nat.le_refl _, fun h => h, NilKeys.nil⟩
 | .st fs, t, j => by
  simp only [nilOwn]
  split
  ·exact nilOwnL_keys P ep d fs _ j
  ·exact ⟨Nat.le_refl _, fun h => h, NilKeys.nil⟩
 | .junk, t, j | .int .., t, j | .bool _, t, j | .str _, t, j | .sl .., t, j | .arr .., t, j | .own .., t, j | .twn .., t, j | .ptr .., t, j | .nilp, t, j | .iref .., t, j | .gptr .., t, j | .fn .., t, j | .nilfn, t, j | .iface .., t, j | .nili, t, j | .mp _, t, j | .nilmp, t, j | .err _, t, j | .tup _, t, j => by
  simp only [nilOwn]; exact ⟨Nat.le_refl _, fun h => h, NilKeys.nil⟩
theorem nilOwnL_keys (P : Program) (ep d : Nat) : ∀ (l : List S) (ts : List Field) (j : Nat), j ≤ (nilOwnL P ep d ts l j).2.2 ∧ (j ≤ 60 → (nilOwnL P ep d ts l j).2.2 ≤ 60) ∧ NilKeys ep d j (nilOwnL P ep d ts l j).2.2 (nilOwnL P ep d ts l j).2.1
 | [], ts, j => by cases ts <;> (simp only [nilOwnL]; exact ⟨Nat.le_refl _, fun h => h, NilKeys.nil⟩)
 | f :: r, [], j => by simp only [nilOwnL]; exact ⟨Nat.le_refl _, fun h => h, NilKeys.nil⟩
 | f :: r, t :: ts, j => by
  simp only [nilOwnL]
  obtain ⟨a1, a2, a3⟩ := nilOwn_keys P ep d f t.type j
  obtain ⟨b1, b2, b3⟩ := nilOwnL_keys P ep d r ts (nilOwn P ep d t.type f j).2.2
  exact ⟨by omega, fun h => b2 (a2 h), a3.append b3 a1 b1⟩
end
mutual
theorem nilOwn_form (P : Program) (ep d : Nat) : ∀ (s : S) (t : TypeId) (j : Nat), (nilOwn P ep d t s j).1.isAgg = s.isAgg ∧ (nilOwn P ep d t s j).1.size = s.size ∧ plain (nilOwn P ep d t s j).1 = plain s
 | .nilsl, t, j => by
  simp only [nilOwn]
  split
  ·split <;> exact ⟨rfl, rfl, rfl⟩
  ·exact ⟨rfl, rfl, rfl⟩
 | .st fs, t, j => by
  simp only [nilOwn]
  split
  ·exact ⟨rfl, by simpa [S.size] using (nilOwnL_form P ep d fs _ j).1, by simpa [plain] using (nilOwnL_form P ep d fs _ j).2⟩
  ·exact ⟨rfl, rfl, rfl⟩
 | .junk, t, j | .int .., t, j | .bool _, t, j | .str _, t, j | .sl .., t, j | .arr .., t, j | .own .., t, j | .twn .., t, j | .ptr .., t, j | .nilp, t, j | .iref .., t, j | .gptr .., t, j | .fn .., t, j | .nilfn, t, j | .iface .., t, j | .nili, t, j | .mp _, t, j | .nilmp, t, j | .err _, t, j | .tup _, t, j => by
  simp [nilOwn]
theorem nilOwnL_form (P : Program) (ep d : Nat) : ∀ (l : List S) (ts : List Field) (j : Nat), sizeL (nilOwnL P ep d ts l j).1 = sizeL l ∧ plainL (nilOwnL P ep d ts l j).1 = plainL l
 | [], ts, j => by cases ts <;> simp [nilOwnL]
 | f :: r, [], j => by simp [nilOwnL]
 | f :: r, t :: ts, j => by
  simp only [nilOwnL, sizeL, plainL]
  obtain ⟨_, a2, a3⟩ := nilOwn_form P ep d f t.type j
  obtain ⟨b1, b2⟩ := nilOwnL_form P ep d r ts (nilOwn P ep d t.type f j).2.2
  exact ⟨by rw [a2, b1], by rw [a3, b2]⟩
end
section
variable {E E' : Env} {tb tb' : Tbl} {w w' : World} {Fr : Nat → Prop}
mutual
theorem nilOwn_rel (M : Moves Fr E tb w E' tb' w') (P : Program) (ep d : Nat) : ∀ (s : S) (t : TypeId) (j : Nat) {cs : List Value},
  (∀ k e, (k, some e) ∈ (nilOwn P ep d t s j).2.1 → tb' k = some e ∧ E'.κ k = none) → (∀ k ∈ keysOf s, ¬ Fr k) → Rel E tb w s cs →
  Rel E' tb' w' (nilOwn P ep d t s j).1 cs ∧ ∀ k ∈ keysOf (nilOwn P ep d t s j).1, k ∈ keysOf s ∨ ∃ j, j < 60 ∧ k = mk ep d j
 | .nilsl, t, j, cs, hk, hn, h => by
  obtain ⟨a, rfl⟩ := h
  simp only [nilOwn] at hk ⊢
  split
  ·rename_i e he
   rw [he] at hk
   simp only at hk
   split
   ·rename_i hj
    rw [if_pos hj] at hk
    obtain ⟨h1, h2⟩ := hk (mk ep d j) (.buf e [] false) (by simp)
    refine ⟨?_, fun k hk => ?_⟩
    ·simp only [Rel, h1, h2]; exact ⟨a, 0, rfl, Nat.le_refl _, rfl⟩
    ·simp [keysOf] at hk; exact .inr ⟨j, hj, hk⟩
   ·exact ⟨⟨a, rfl⟩, fun k hk => .inl hk⟩
  ·exact ⟨⟨a, rfl⟩, fun k hk => .inl hk⟩
 | .st fs, t, j, cs, hk, hn, h => by
  simp only [nilOwn] at hk ⊢
  split
  ·rename_i ts hts
   rw [hts] at hk
   simp only at hk
   simp only [Rel] at h ⊢
   exact nilOwnL_rel M P ep d fs _ j hk hn h
  ·exact ⟨M.rel hn h, fun k hk => .inl hk⟩
 | .junk, t, j, cs, hk, hn, h | .int .., t, j, cs, hk, hn, h | .bool _, t, j, cs, hk, hn, h | .str _, t, j, cs, hk, hn, h | .sl .., t, j, cs, hk, hn, h | .arr .., t, j, cs, hk, hn, h | .own .., t, j, cs, hk, hn, h | .twn .., t, j, cs, hk, hn, h | .ptr .., t, j, cs, hk, hn, h | .nilp, t, j, cs, hk, hn, h | .iref .., t, j, cs, hk, hn, h | .gptr .., t, j, cs, hk, hn, h | .fn .., t, j, cs, hk, hn, h | .nilfn, t, j, cs, hk, hn, h | .iface .., t, j, cs, hk, hn, h | .nili, t, j, cs, hk, hn, h | .mp _, t, j, cs, hk, hn, h | .nilmp, t, j, cs, hk, hn, h | .err _, t, j, cs, hk, hn, h | .tup _, t, j, cs, hk, hn, h => by
  simp only [nilOwn]; exact ⟨M.rel hn h, fun k hk => .inl hk⟩
theorem nilOwnL_rel (M : Moves Fr E tb w E' tb' w') (P : Program) (ep d : Nat) : ∀ (l : List S) (ts : List Field) (j : Nat) {cs : List Value},
  (∀ k e, (k, some e) ∈ (nilOwnL P ep d ts l j).2.1 → tb' k = some e ∧ E'.κ k = none) → (∀ k ∈ keysOfL l, ¬ Fr k) → RelL E tb w l cs →
  RelL E' tb' w' (nilOwnL P ep d ts l j).1 cs ∧ ∀ k ∈ keysOfL (nilOwnL P ep d ts l j).1, k ∈ keysOfL l ∨ ∃ j, j < 60 ∧ k = mk ep d j
 | [], ts, j, cs, hk, hn, h => by cases ts <;> (simp only [nilOwnL]; exact ⟨h, fun k hk => .inl hk⟩)
 | f :: r, [], j, cs, hk, hn, h => by simp only [nilOwnL]; exact ⟨M.relL hn h, fun k hk => .inl hk⟩
 | f :: r, t :: ts, j, cs, hk, hn, h => by
  simp only [nilOwnL] at hk ⊢
  simp only [RelL] at h
  obtain ⟨c1, c2, rfl, h1, h2⟩ := h
  obtain ⟨a1, a2⟩ := nilOwn_rel M P ep d f t.type j (fun k e he => hk k e (List.mem_append_left _ he)) (fun k hk => hn k (by simp [keysOfL, hk])) h1
  obtain ⟨b1, b2⟩ := nilOwnL_rel M P ep d r ts _ (fun k e he => hk k e (List.mem_append_right _ he)) (fun k hk => hn k (by simp [keysOfL, hk])) h2
  refine ⟨⟨c1, c2, rfl, a1, b1⟩, fun k hk => ?_⟩
  simp only [keysOfL, List.mem_append] at hk ⊢
  rcases hk with hk | hk
  ·rcases a2 k hk with h | h
   ·exact .inl (.inl h)
   ·exact .inr h
  ·rcases b2 k hk with h | h
   ·exact .inl (.inr h)
   ·exact .inr h
end
theorem nilOwn_relV (M : Moves Fr E tb w E' tb' w') (P : Program) (ep d : Nat) (s : S) (t : TypeId) (j : Nat) {v : Value}
  (hk : ∀ k e, (k, some e) ∈ (nilOwn P ep d t s j).2.1 → tb' k = some e ∧ E'.κ k = none) (hn : ∀ k ∈ keysOf s, ¬ Fr k) (h : RelV E tb w s v) :
  RelV E' tb' w' (nilOwn P ep d t s j).1 v ∧ ∀ k ∈ keysOf (nilOwn P ep d t s j).1, k ∈ keysOf s ∨ ∃ j, j < 60 ∧ k = mk ep d j := by
 unfold RelV at h ⊢
 rw [(nilOwn_form P ep d s t j).1]
 split
 ·rename_i ha
  rw [if_pos ha] at h
  obtain ⟨a, h1, h2⟩ := h
  obtain ⟨q1, q2⟩ := nilOwn_rel M P ep d s t j hk hn h2
  exact ⟨⟨a, h1, q1⟩, q2⟩
 ·rename_i ha
  rw [if_neg ha] at h
  exact nilOwn_rel M P ep d s t j hk hn h
end
theorem flatten_pieces (cs : List Value) (m : Nat) : ∀ n, cs.length = n * m → ((List.range n).map fun i => (cs.drop (i * m)).take m).flatten = cs := by
 intro n
 induction n generalizing cs with
 | zero => intro h; simp at h; subst h; rfl
 | succ n ih =>
  intro h
  rw [List.range_succ_eq_map, List.map_cons, List.flatten_cons, List.map_map]
  have := ih (cs.drop m) (by rw [List.length_drop, h, Nat.succ_mul]; omega)
  have he : (List.map ((fun i => List.take m (List.drop (i * m) cs)) ∘ Nat.succ) (List.range n)) = (List.map (fun i => List.take m (List.drop (i * m) (cs.drop m))) (List.range n)) := by
   apply List.map_congr_left
   intro i _
   simp only [Function.comp_apply, List.drop_drop, Nat.succ_mul]
   rw [Nat.add_comm]
  rw [he, this]
  simp
theorem isZ_rt {w : World} {ok : Ty → Nat → Prop} : ∀ {t : Ty} {cs : List Value}, isZ t cs = true → Rt w ok t cs t.zero := by
 intro t
 induction t with
 | nw k => intro cs h; simp [isZ] at h
 | int k =>
  intro cs h
  unfold isZ at h
  split at h <;> try (simp at h; done)
  all_goals (rename_i h1; try cases h1)
  all_goals try (simp at h; done)
  simp at h
  obtain ⟨rfl, rfl⟩ := h
  exact ⟨rfl, by rw [inK_iff]; exact inK_zero _⟩
 | bool =>
  intro cs h
  unfold isZ at h
  split at h <;> try contradiction
  simp at h; subst h; rfl
 | str =>
  intro cs h
  unfold isZ at h
  split at h <;> try contradiction
  simp at h
  refine ⟨_, rfl, ?_, ?_⟩
  ·simp [bytesL, h, Ty.zero]
  ·simp [Ty.zero]
 | slice e _ =>
  intro cs h
  unfold isZ at h
  split at h <;> try contradiction
  exact ⟨none, 0, rfl, Nat.le_refl _, by simp [Ty.zero], .inl rfl⟩
 | unit =>
  intro cs h
  unfold isZ at h
  split at h <;> try contradiction
  rfl
 | pair a b iha ihb =>
  intro cs h
  simp only [isZ, Bool.and_eq_true] at h
  exact ⟨_, _, (List.take_append_drop a.size cs).symm, iha h.1, ihb h.2⟩
 | rose a ih =>
  intro cs h
  simp only [isZ, Bool.and_eq_true] at h
  obtain ⟨h1, h2⟩ := h
  refine rt_rose.2 ⟨_, _, (List.take_append_drop a.size cs).symm, ih h1, ?_⟩
  split at h2
  ·rename_i heq
   rw [heq]
   exact ⟨none, 0, rfl, Nat.le_refl _, by simp [Ty.zero, Rose.kids], .inl rfl⟩
  ·cases h2
 | err =>
  intro cs h
  unfold isZ at h
  split at h <;> try contradiction
  rfl
 | arr n e ih =>
  intro cs h
  simp only [isZ, Bool.and_eq_true, decide_eq_true_eq, List.all_eq_true, List.mem_range] at h
  refine ⟨by simp [Ty.zero], _, (flatten_pieces cs e.size n h.1).symm, by simp, fun i hi => ?_⟩
  have hi' : i < n := by simpa [Ty.zero] using hi
  refine ⟨(cs.drop (i * e.size)).take e.size, by simp [List.getElem?_eq_getElem, hi'], ?_⟩
  simp only [Ty.zero, List.getElem_replicate]
  exact ih (h.2 i hi')
end Go.Ab
