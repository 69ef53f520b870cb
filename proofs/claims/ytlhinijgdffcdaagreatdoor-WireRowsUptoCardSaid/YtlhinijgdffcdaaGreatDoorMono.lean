/- What keeps readings. -/
import Derived.Test.YtlhinijgdffcdaaGreatDoorRel
namespace Go.Ab
open Go
set_option linter.unusedVariables false
mutual
theorem sameShape_size : ∀ {s t : S}, sameShape s t = true → s.size = t.size ∧ s.isAgg = t.isAgg
 | .arr n e _, t, h => by
  cases t <;> simp [sameShape] at h
  obtain ⟨rfl, rfl⟩ := h
  exact ⟨rfl, rfl⟩
 | .st fs, t, h => by
  cases t <;> simp [sameShape] at h
  exact ⟨by simpa [S.size] using sameShapeL_size h, rfl⟩
 | .junk, t, h => by simp [sameShape] at h
 | .tup _, t, h => by simp [sameShape] at h
 | .int .., t, h | .bool _, t, h | .str _, t, h | .sl .., t, h | .nilsl, t, h | .own .., t, h | .twn .., t, h | .ptr .., t, h | .nilp, t, h | .iref .., t, h | .gptr .., t, h | .fn .., t, h | .nilfn, t, h | .iface .., t, h | .nili, t, h | .mp _, t, h | .nilmp, t, h | .err _, t, h => by
  cases t <;> first | exact ⟨rfl, rfl⟩ | simp [sameShape] at h
theorem sameShapeL_size : ∀ {l m : List S}, sameShapeL l m = true → sizeL l = sizeL m
 | [], [], _ => rfl
 | f :: r, g :: q, h => by
  simp only [sameShapeL, Bool.and_eq_true] at h
  simp only [sizeL, (sameShape_size h.1).1, sameShapeL_size h.2]
 | [], _ :: _, h => by simp [sameShapeL] at h
 | _ :: _, [], h => by simp [sameShapeL] at h
end
theorem sameShapeL_get : ∀ {l m : List S}, sameShapeL l m = true → ∀ i : Nat, (l[i]? = none ∧ m[i]? = none) ∨ ∃ a b, l[i]? = some a ∧ m[i]? = some b ∧ sameShape a b = true
 | [], [], _, i => .inl ⟨rfl, rfl⟩
 | f :: r, g :: q, h, 0 => by
  simp only [sameShapeL, Bool.and_eq_true] at h
  exact .inr ⟨f, g, rfl, rfl, h.1⟩
 | f :: r, g :: q, h, i + 1 => by
  simp only [sameShapeL, Bool.and_eq_true] at h
  simpa using sameShapeL_get h.2 i
 | [], _ :: _, h, _ => by simp [sameShapeL] at h
 | _ :: _, [], h, _ => by simp [sameShapeL] at h
theorem sameShapeL_off : ∀ {l m : List S}, sameShapeL l m = true → ∀ i, offL l i = offL m i
 | [], [], _, i => rfl
 | f :: r, g :: q, h, 0 => rfl
 | f :: r, g :: q, h, i + 1 => by
  simp only [sameShapeL, Bool.and_eq_true] at h
  simp only [offL, (sameShape_size h.1).1, sameShapeL_off h.2 i]
 | [], _ :: _, h, _ => by simp [sameShapeL] at h
 | _ :: _, [], h, _ => by simp [sameShapeL] at h
theorem sameShape_path : ∀ (p : List Step) {s t : S}, sameShape s t = true → pathS p s → pathS p t ∧ offS p s = offS p t
 | [], s, t, _, _ => ⟨trivial, rfl⟩
 | .fld i :: p, s, t, h, hp => by
  cases s <;> try (simp [pathS] at hp; done)
  rename_i fs
  cases t <;> try (simp [sameShape] at h; done)
  rename_i gs
  simp only [sameShape] at h
  simp only [pathS] at hp ⊢
  simp only [offS, sameShapeL_off h i]
  rcases sameShapeL_get h i with ⟨h1, h2⟩ | ⟨a, b, h1, h2, hab⟩
  ·simp [h1] at hp
  ·simp only [h1, h2] at hp ⊢
   obtain ⟨q1, q2⟩ := sameShape_path p hab hp
   exact ⟨q1, by rw [q2]⟩
 | .idx i :: p, s, t, h, hp => by
  cases s <;> try (simp [pathS] at hp; done)
  cases t <;> try (simp [sameShape] at h; done)
  simp only [sameShape, Bool.and_eq_true, beq_iff_eq, decide_eq_true_eq] at h
  obtain ⟨rfl, rfl⟩ := h
  exact ⟨hp, rfl⟩
def SameForm : Ent → Ent → Prop
 | .box s _, .box t _ => s = t ∨ sameShape s t = true
 | .buf e xs _, .buf e' ys _ => e = e' ∧ xs.length = ys.length
 | .map .., .map .. => True
 | _, _ => False
theorem SameForm.refl : ∀ {a : Ent}, SameForm a a
 | .box .. => .inl (Eq.refl _)
 | .buf .. => ⟨Eq.refl _, Eq.refl _⟩
 | .map .. => trivial
theorem SameForm.freeze : ∀ {a : Ent}, SameForm a a.freeze
 | .box .. => .inl (Eq.refl _)
 | .buf .. => ⟨Eq.refl _, Eq.refl _⟩
 | .map .. => trivial
theorem SameForm.path {a b : Ent} (h : SameForm a b) {p : List Step} (hp : pathE a p) : pathE b p ∧ offE a p = offE b p := by
 cases a <;> cases b <;> simp only [SameForm] at h
 ·rcases h with rfl | h
  ·exact ⟨hp, rfl⟩
  ·exact sameShape_path p h hp
 ·obtain ⟨rfl, hl⟩ := h
  cases p with
  | nil => simp [pathE] at hp
  | cons st p =>
   cases st with
   | fld i => simp [pathE] at hp
   | idx i => simp only [pathE] at hp ⊢; rw [← hl]; exact ⟨hp, rfl⟩
 ·simp [pathE] at hp
structure Moves (Fr : Nat → Prop) (E : Env) (tb : Tbl) (w : World) (E' : Env) (tb' : Tbl) (w' : World) : Prop where
 ok : ∀ t b, E.ok tb t b → b < w.heap.size → E'.ok tb' t b ∧ b < w'.heap.size
 cell : ∀ t b, E.ok tb t b → ∀ o v, w.cell? ⟨b, o, none⟩ = some v → w'.cell? ⟨b, o, none⟩ = some v
 some_ : ∀ b o, (w.cell? ⟨b, o, none⟩).isSome → (w'.cell? ⟨b, o, none⟩).isSome
 len_ : w.heap.size ≤ w'.heap.size
 none_ : ∀ b o, b < w.heap.size → (w'.cell? ⟨b, o, none⟩).isSome → (w.cell? ⟨b, o, none⟩).isSome
 key : ∀ k e', tb' k = some e' → ¬ Fr k → (∃ e, tb k = some e ∧ SameForm e e' ∧ E'.κ k = E.κ k)
 gl : E'.gl = E.gl
theorem Lies.mono {w w' : World} {b o : Nat} {cs : List Value} (h : Lies w b o cs) (hc : ∀ o v, w.cell? ⟨b, o, none⟩ = some v → w'.cell? ⟨b, o, none⟩ = some v) : Lies w' b o cs :=
 fun i v hi => hc _ _ (h i v hi)
section
variable {Fr : Nat → Prop} {E E' : Env} {tb tb' : Tbl} {w w' : World}
theorem Moves.rt (M : Moves Fr E tb w E' tb' w') {t : Ty} {cs : List Value} {x : t.den} (h : Rt w (E.ok tb) t cs x) : Rt w' (E'.ok tb') t cs x :=
 Rt.mono M.ok M.cell h
mutual
theorem Moves.rel (M : Moves Fr E tb w E' tb' w') : ∀ {s : S} {cs : List Value}, (∀ k ∈ keysOf s, ¬ Fr k) → Rel E tb w s cs → Rel E' tb' w' s cs
 | .junk, cs, _, h => h
 | .int .., cs, _, h => h
 | .bool _, cs, _, h => h
 | .str _, cs, _, h => M.rt h
 | .err x, cs, _, h => M.rt (t := .err) (x := x) h
 | .sl .., cs, _, h => M.rt h
 | .nilsl, cs, _, h => h
 | .arr .., cs, _, h => M.rt (t := .arr _ _) h
 | .st fs, cs, hn, h => by simp only [Rel] at h ⊢; exact M.relL hn h
 | .own e k, cs, hn, h => by
  have h1 : ∃ a n c, cs = [.slice a n c] := by
   simp only [Rel] at h
   split at h
   ·obtain ⟨a, c, rfl, _⟩ := h; exact ⟨a, _, c, rfl⟩
   ·exact h
  simp only [Rel] at h ⊢
  cases hk : tb' k with
  | none => exact h1
  | some e' =>
   obtain ⟨e0, h0, hf, hκ⟩ := M.key k e' hk (hn k (by simp [keysOf]))
   rw [h0] at h
   cases e' with
   | box => exact h1
   | map => exact h1
   | buf u ys f =>
    cases e0 with
    | box => simp [SameForm] at hf
    | map => simp [SameForm] at hf
    | buf u0 xs f0 =>
     obtain ⟨rfl, hl⟩ := hf
     obtain ⟨a, cap, h4, h2, h3⟩ := h
     refine ⟨a, cap, by rw [← hl]; exact h4, by rw [← hl]; exact h2, ?_⟩
     rw [hκ]
     cases hq : E.κ k with
     | none => rw [hq] at h3; exact h3
     | some p =>
      rw [hq] at h3
      exact ⟨h3.1, fun i hi => M.some_ _ _ (h3.2.1 i hi), h3.2.2⟩
 | .twn e k n, cs, hn, h => by
  have h1 : ∃ a n c, cs = [.slice a n c] := by
   simp only [Rel] at h
   split at h
   ·obtain ⟨b, o, _, _, _, rfl⟩ := h; exact ⟨_, _, _, rfl⟩
   ·exact h
  simp only [Rel] at h ⊢
  cases hk : tb' k with
  | none => exact h1
  | some e' =>
   obtain ⟨e0, h0, hf, hκ⟩ := M.key k e' hk (hn k (by simp [keysOf]))
   rw [h0] at h
   cases e' with
   | box => exact h1
   | map => exact h1
   | buf u ys f =>
    cases e0 with
    | box => simp [SameForm] at hf
    | map => simp [SameForm] at hf
    | buf u0 xs f0 =>
     obtain ⟨rfl, hl⟩ := hf
     obtain ⟨b, o, h2, h3, ⟨h4, h6, h7⟩, h5⟩ := h
     exact ⟨b, o, by rw [hκ]; exact h2, h3, ⟨by rw [← hl]; exact h4, Nat.lt_of_lt_of_le h6 M.len_, fun j hj => by rw [← hl]; exact h7 j (M.none_ b j h6 hj)⟩, by rw [← hl]; exact h5⟩
 | .ptr k p, cs, hn, h => by
  have h0 : ∃ a, cs = [.pointer (some a)] := by
   simp only [Rel] at h
   split at h
   ·obtain ⟨_, b, o, _, rfl⟩ := h; exact ⟨_, rfl⟩
   ·exact h
  simp only [Rel] at h ⊢
  cases hk : tb' k with
  | none => exact h0
  | some e' =>
   obtain ⟨e0, h0, hf, hκ⟩ := M.key k e' hk (hn k (by simp [keysOf]))
   rw [h0] at h
   obtain ⟨hp, b, o, h1, h2⟩ := h
   obtain ⟨q1, q2⟩ := hf.path hp
   exact ⟨q1, b, o, by rw [hκ]; exact h1, by rw [← q2]; exact h2⟩
 | .nilp, cs, _, h => h
 | .iref t x, cs, _, h => by
  simp only [Rel] at h ⊢
  obtain ⟨b, o, ecs, h1, h2, h3, h4, h5⟩ := h
  obtain ⟨t0, h2⟩ := h2
  exact ⟨b, o, ecs, h1, ⟨t0, (M.ok t0 b h2 h3).1⟩, (M.ok t0 b h2 h3).2, h4.mono (M.cell t0 b h2), M.rt h5⟩
 | .gptr g p, cs, _, h => by simp only [Rel] at h ⊢; rw [M.gl]; exact h
 | .fn f cap, cs, hn, h => by
  simp only [Rel] at h ⊢
  obtain ⟨vs, h1, h2⟩ := h
  exact ⟨vs, h1, M.relVL hn h2⟩
 | .nilfn, cs, _, h => h
 | .iface t v, cs, hn, h => by
  simp only [Rel] at h ⊢
  obtain ⟨v', h1, h2⟩ := h
  refine ⟨v', h1, ?_⟩
  split
  ·rename_i ha; rw [if_pos ha] at h2; obtain ⟨a, h3, h4⟩ := h2; exact ⟨a, h3, M.rel hn h4⟩
  ·rename_i ha; rw [if_neg ha] at h2; exact M.rel hn h2
 | .nili, cs, _, h => h
 | .mp k, cs, hn, h => by
  have h0 : ∃ b, cs = [.map (some b)] := by
   simp only [Rel] at h
   split at h
   ·obtain ⟨b, _, rfl⟩ := h; exact ⟨_, rfl⟩
   ·exact h
  simp only [Rel] at h ⊢
  cases hk : tb' k with
  | none => exact h0
  | some e' =>
   obtain ⟨e0, h0, hf, hκ⟩ := M.key k e' hk (hn k (by simp [keysOf]))
   rw [h0] at h
   obtain ⟨b, h1, h2⟩ := h
   exact ⟨b, by rw [hκ]; exact h1, h2⟩
 | .nilmp, cs, _, h => h
 | .tup fs, cs, hn, h => by
  simp only [Rel] at h ⊢
  obtain ⟨vs, h1, h2⟩ := h
  exact ⟨vs, h1, M.relVL hn h2⟩
theorem Moves.relL (M : Moves Fr E tb w E' tb' w') : ∀ {l : List S} {cs : List Value}, (∀ k ∈ keysOfL l, ¬ Fr k) → RelL E tb w l cs → RelL E' tb' w' l cs
 | [], cs, _, h => h
 | f :: r, cs, hn, h => by
  simp only [RelL] at h ⊢
  obtain ⟨c1, c2, h1, h2, h3⟩ := h
  exact ⟨c1, c2, h1, M.rel (fun k hk => hn k (by simp [keysOfL, hk])) h2, M.relL (fun k hk => hn k (by simp [keysOfL, hk])) h3⟩
theorem Moves.relVL (M : Moves Fr E tb w E' tb' w') : ∀ {l : List S} {vs : List Value}, (∀ k ∈ keysOfL l, ¬ Fr k) → RelVL E tb w l vs → RelVL E' tb' w' l vs
 | [], vs, _, h => h
 | f :: r, vs, hn, h => by
  simp only [RelVL] at h ⊢
  obtain ⟨v, q, h1, h2, h3⟩ := h
  have hf : ∀ k ∈ keysOf f, ¬ Fr k := fun k hk => hn k (by simp [keysOfL, hk])
  refine ⟨v, q, h1, ?_, M.relVL (fun k hk => hn k (by simp [keysOfL, hk])) h3⟩
  split
  ·rename_i ha; rw [if_pos ha] at h2; obtain ⟨a, h3, h4⟩ := h2; exact ⟨a, h3, M.rel hf h4⟩
  ·rename_i ha; rw [if_neg ha] at h2; exact M.rel hf h2
end
theorem Moves.relV (M : Moves Fr E tb w E' tb' w') {s : S} {v : Value} (hn : ∀ k ∈ keysOf s, ¬ Fr k) (h : RelV E tb w s v) : RelV E' tb' w' s v := by
 unfold RelV at h ⊢
 split
 ·rename_i ha; rw [if_pos ha] at h; obtain ⟨a, h3, h4⟩ := h; exact ⟨a, h3, M.rel hn h4⟩
 ·rename_i ha; rw [if_neg ha] at h; exact M.rel hn h
end
end Go.Ab
