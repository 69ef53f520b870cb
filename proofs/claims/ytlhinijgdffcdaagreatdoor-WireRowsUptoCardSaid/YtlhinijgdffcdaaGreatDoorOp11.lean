/- Stores. -/
import Derived.Test.YtlhinijgdffcdaaGreatDoorOp10
namespace Go.Ab
open Go
set_option linter.unusedVariables false
set_option linter.unusedSimpArgs false
def Spl (cs cs' ds : List Value) (m : Nat) : Prop :=
 cs'.length = cs.length ∧ m + ds.length ≤ cs.length ∧ ∀ p, cs'[p]? = if m ≤ p ∧ p < m + ds.length then ds[p - m]? else cs[p]?
theorem Spl.full {cs cs' ds : List Value} (h : Spl cs cs' ds 0) (hl : ds.length = cs.length) : cs' = ds := by
 obtain ⟨h1, h2, h3⟩ := h
 apply List.ext_getElem?
 intro p
 rw [h3]
 by_cases hp : p < ds.length
 ·rw [if_pos ⟨by omega, by omega⟩, Nat.sub_zero]
 ·rw [if_neg (by omega), List.getElem?_eq_none (by omega), List.getElem?_eq_none (by omega)]
theorem Spl.left {c1 c2 cs' ds : List Value} {m : Nat} (h : Spl (c1 ++ c2) cs' ds m) (hm : m + ds.length ≤ c1.length) : ∃ c1', cs' = c1' ++ c2 ∧ Spl c1 c1' ds m := by
 obtain ⟨h1, h2, h3⟩ := h
 simp only [List.length_append] at h1
 refine ⟨cs'.take c1.length, ?_, by simp; omega, hm, ?_⟩
 ·apply List.ext_getElem?
  intro p
  by_cases hp : p < c1.length
  ·rw [List.getElem?_append_left (by simp; omega), List.getElem?_take, if_pos hp]
  ·rw [List.getElem?_append_right (by simp; omega), h3, if_neg (by omega), List.getElem?_append_right (by omega)]; congr 1; simp; omega
 ·intro p
  rw [List.getElem?_take]
  by_cases hp : p < c1.length
  ·rw [if_pos hp, h3, List.getElem?_append_left hp]
  ·rw [if_neg hp, if_neg (by omega), List.getElem?_eq_none (by omega)]
theorem Spl.right {c1 c2 cs' ds : List Value} {m : Nat} (h : Spl (c1 ++ c2) cs' ds (c1.length + m)) : ∃ c2', cs' = c1 ++ c2' ∧ Spl c2 c2' ds m := by
 obtain ⟨h1, h2, h3⟩ := h
 simp only [List.length_append] at h1 h2
 refine ⟨cs'.drop c1.length, ?_, by simp; omega, by omega, ?_⟩
 ·apply List.ext_getElem?
  intro p
  by_cases hp : p < c1.length
  ·rw [List.getElem?_append_left hp, h3, if_neg (by omega), List.getElem?_append_left hp]
  ·rw [List.getElem?_append_right (by omega), List.getElem?_drop]; congr 1; omega
 ·intro p
  rw [List.getElem?_drop, h3]
  by_cases hp : m ≤ p ∧ p < m + ds.length
  ·rw [if_pos hp, if_pos (by omega)]; congr 1; omega
  ·rw [if_neg hp, if_neg (by omega), List.getElem?_append_right (by omega)]; congr 1; omega
theorem Spl.flat {ds : List Value} {k m : Nat} : ∀ {css : List (List Value)} {cs' : List Value} {i : Nat} {c : List Value}, (∀ c ∈ css, c.length = k) → css[i]? = some c → m + ds.length ≤ k → Spl css.flatten cs' ds (i * k + m) →
  ∃ c', cs' = (css.set i c').flatten ∧ Spl c c' ds m := by
 intro css
 induction css with
 | nil => intro cs' i c _ hi; simp at hi
 | cons d r ih =>
  intro cs' i c hk hi hm h
  rw [List.flatten_cons] at h
  have hd := hk d List.mem_cons_self
  cases i with
  | zero =>
   simp at hi; subst hi
   simp only [Nat.zero_mul, Nat.zero_add] at h
   obtain ⟨c', rfl, h2⟩ := h.left (by omega)
   exact ⟨c', by simp, h2⟩
  | succ i =>
   rw [show (i + 1) * k + m = d.length + (i * k + m) by rw [Nat.succ_mul]; omega] at h
   obtain ⟨c2', rfl, h2⟩ := h.right
   obtain ⟨c', rfl, h3⟩ := ih (fun c hc => hk c (List.mem_cons_of_mem _ hc)) (by simpa using hi) hm h2
   exact ⟨c', by simp, h3⟩
section
variable {E : Env} {tb : Tbl} {w : World} {ok : Ty → Nat → Prop}
theorem setT_bound {low : S → (t : Ty) → Option t.den} {v : S} {n : Nat} (hl : ∀ t y, low v t = some y → n = t.size) : ∀ {t : Ty} {p : List Step} {x y : t.den}, pathT t p → setT t x p low v = some y → offT t p + n ≤ t.size := by
 intro t
 induction t with
 | int k | nw k | bool | str | slice e _ | unit | err =>
  intro p x y hp h
  cases p with
  | nil => simp only [setT] at h; have := hl _ _ h; simp [offT, this]
  | cons s p => simp [pathT] at hp
 | rose a _ =>
  intro p x y hp h
  cases p with
  | nil => simp only [setT] at h; have := hl _ _ h; simp [offT, this]
  | cons s p => simp [setT] at h
 | arr m e ih =>
  intro p x y hp h
  cases p with
  | nil => simp only [setT] at h; have := hl _ _ h; simp [offT, this]
  | cons s p =>
   cases s with
   | fld j => simp [pathT] at hp
   | idx j =>
    simp only [pathT] at hp
    simp only [setT, Option.map_eq_some_iff] at h
    obtain ⟨z, h1, _⟩ := h
    have := ih hp.2.2 h1
    simp only [offT, Ty.size]
    have h2 : (j.toNat + 1) * e.size ≤ m * e.size := Nat.mul_le_mul_right _ hp.2.1
    rw [Nat.succ_mul] at h2; omega
 | pair a b iha ihb =>
  intro p x y hp h
  cases p with
  | nil => simp only [setT] at h; have := hl _ _ h; simp [offT, this]
  | cons s p =>
   cases s with
   | idx j => simp [pathT] at hp
   | fld j =>
    cases j with
    | zero =>
     simp only [pathT] at hp
     simp only [setT, Option.map_eq_some_iff] at h
     obtain ⟨z, h1, _⟩ := h
     have := iha hp h1
     simp only [offT, Ty.size]; omega
    | succ j =>
     simp only [pathT] at hp
     simp only [setT, Option.map_eq_some_iff] at h
     obtain ⟨z, h1, _⟩ := h
     have := ihb hp h1
     simp only [offT, Ty.size]; omega
theorem setT_rt {low : S → (t : Ty) → Option t.den} {v : S} {ds : List Value} (hl : ∀ t y, low v t = some y → Rt w ok t ds y) : ∀ {t : Ty} {p : List Step} {x y : t.den} {cs cs' : List Value}, pathT t p → setT t x p low v = some y →
  Rt w ok t cs x → Spl cs cs' ds (offT t p) → Rt w ok t cs' y := by
 have hl2 : ∀ t y, low v t = some y → ds.length = t.size := fun t y h => (hl t y h).length
 intro t
 induction t with
 | int k | nw k | bool | str | slice e _ | unit | err =>
  intro p x y cs cs' hp h hr hs
  cases p with
  | nil =>
   simp only [setT] at h
   simp only [offT] at hs
   have := hs.full (by rw [hl2 _ _ h, hr.length])
   subst this; exact hl _ _ h
  | cons s p => simp [pathT] at hp
 | rose a _ =>
  intro p x y cs cs' hp h hr hs
  cases p with
  | nil =>
   simp only [setT] at h
   simp only [offT] at hs
   have := hs.full (by rw [hl2 _ _ h, hr.length])
   subst this; exact hl _ _ h
  | cons s p => simp [setT] at h
 | arr m e ih =>
  intro p x y cs cs' hp h hr hs
  cases p with
  | nil =>
   simp only [setT] at h
   simp only [offT] at hs
   have := hs.full (by rw [hl2 _ _ h, hr.length])
   subst this; exact hl _ _ h
  | cons s p =>
   cases s with
   | fld j => simp [pathT] at hp
   | idx j =>
    simp only [pathT] at hp
    simp only [setT, Option.map_eq_some_iff] at h
    obtain ⟨z, h1, rfl⟩ := h
    simp only [offT] at hs
    have hb := setT_bound hl2 hp.2.2 h1
    obtain ⟨hxl, css, rfl, hn, hc⟩ := hr
    have hi : j.toNat < x.length := by omega
    obtain ⟨ecs, he, hr⟩ := hc j.toNat hi
    have hm : ∀ c ∈ css, c.length = e.size := by
     intro c hcm
     obtain ⟨q, hq, rfl⟩ := List.getElem_of_mem hcm
     obtain ⟨u, hu, hur⟩ := hc q (by omega)
     rw [List.getElem?_eq_getElem hq] at hu
     cases hu
     exact hur.length
    obtain ⟨c', rfl, hs2⟩ := Spl.flat hm he hb hs
    rw [getA_eq hi] at h1
    have hz := ih hp.2.2 h1 hr hs2
    refine ⟨by simp [setA, hxl], css.set j.toNat c', rfl, by simp [hn], fun q hq => ?_⟩
    simp only [setA, List.length_set] at hq
    by_cases hjq : j.toNat = q
    ·subst hjq
     refine ⟨c', by rw [List.getElem?_set_self (by omega)], ?_⟩
     simp only [setA, List.getElem_set_self]; exact hz
    ·obtain ⟨u, hu, hur⟩ := hc q hq
     refine ⟨u, by rw [List.getElem?_set_ne hjq]; exact hu, ?_⟩
     simp only [setA, List.getElem_set_ne hjq]; exact hur
 | pair a b iha ihb =>
  intro p x y cs cs' hp h hr hs
  cases p with
  | nil =>
   simp only [setT] at h
   simp only [offT] at hs
   have := hs.full (by rw [hl2 _ _ h, hr.length])
   subst this; exact hl _ _ h
  | cons s p =>
   obtain ⟨c1, c2, rfl, r1, r2⟩ := hr
   cases s with
   | idx j => simp [pathT] at hp
   | fld j =>
    cases j with
    | zero =>
     simp only [pathT] at hp
     simp only [setT, Option.map_eq_some_iff] at h
     obtain ⟨z, h1, rfl⟩ := h
     simp only [offT] at hs
     obtain ⟨c1', rfl, hs2⟩ := hs.left (by rw [r1.length]; exact setT_bound hl2 hp h1)
     exact ⟨c1', c2, rfl, iha hp h1 r1 hs2, r2⟩
    | succ j =>
     simp only [pathT] at hp
     simp only [setT, Option.map_eq_some_iff] at h
     obtain ⟨z, h1, rfl⟩ := h
     simp only [offT] at hs
     rw [← r1.length] at hs
     obtain ⟨c2', rfl, hs2⟩ := hs.right
     exact ⟨c1, c2', rfl, r1, ihb hp h1 r2 hs2⟩
theorem Spl.relL {ds : List Value} {m : Nat} : ∀ {fs : List S} {cs cs' : List Value} {i : Nat} {f : S}, RelL E tb w fs cs → fs[i]? = some f → m + ds.length ≤ f.size → Spl cs cs' ds (offL fs i + m) →
  ∃ c c', Rel E tb w f c ∧ Spl c c' ds m ∧ ∀ f', Rel E tb w f' c' → RelL E tb w (fs.set i f') cs' := by
 intro fs
 induction fs with
 | nil => intro cs cs' i f _ hi; simp at hi
 | cons g r ih =>
  intro cs cs' i f hr hi hm hs
  obtain ⟨c1, c2, rfl, r1, r2⟩ := hr
  cases i with
  | zero =>
   simp at hi; subst hi
   simp only [offL, Nat.zero_add] at hs
   obtain ⟨c1', rfl, hs2⟩ := hs.left (by rw [Rel.length r1]; exact hm)
   exact ⟨c1, c1', r1, hs2, fun f' hf => ⟨c1', c2, rfl, hf, r2⟩⟩
  | succ i =>
   simp only [offL] at hs
   rw [← Rel.length r1, Nat.add_assoc] at hs
   obtain ⟨c2', rfl, hs2⟩ := hs.right
   obtain ⟨c, c', q1, q2, q3⟩ := ih r2 (by simpa using hi) hm hs2
   exact ⟨c, c', q1, q2, fun f' hf => ⟨c1, c2', rfl, r1, q3 f' hf⟩⟩
theorem offL_get : ∀ {fs : List S} {i : Nat} {f : S}, fs[i]? = some f → offL fs i + f.size ≤ sizeL fs
 | [], i, f, hi => by simp at hi
 | g :: r, 0, f, hi => by simp at hi; subst hi; simp [offL, sizeL]
 | g :: r, i + 1, f, hi => by have := offL_get (fs := r) (i := i) (f := f) (by simpa using hi); simp only [offL, sizeL]; omega
theorem setS_bound {low : S → (t : Ty) → Option t.den} {v : S} (hl : ∀ t y, low v t = some y → v.size = t.size) : ∀ {p : List Step} {s s' : S}, pathS p s → setS low p s v = some s' → offS p s + v.size ≤ s.size
 | [], s, s', _, h => by
  simp only [setS] at h
  split at h <;> try contradiction
  rename_i hs
  have := (sameShape_size hs).1
  simp [offS, this]
 | .fld i :: p, s, s', hp, h => by
  cases s <;> try (simp [pathS] at hp; done)
  rename_i fs
  simp only [pathS] at hp
  simp only [setS] at h
  cases hi : fs[i]? with
  | none => simp [hi] at hp
  | some f =>
   simp only [hi] at hp
   simp only [hi, Option.bind_some, Option.map_eq_some_iff] at h
   obtain ⟨f', h1, _⟩ := h
   have := setS_bound hl hp h1
   have hb : offL fs i + f.size ≤ sizeL fs := offL_get hi
   simp only [offS, hi, S.size]; omega
 | .idx i :: p, s, s', hp, h => by
  cases s <;> try (simp [pathS] at hp; done)
  rename_i n e xs
  simp only [setS, Option.map_eq_some_iff] at h
  obtain ⟨z, h1, _⟩ := h
  have := setT_bound (n := v.size) hl (t := .arr n e) (p := .idx i :: p) (x := xs) (y := setA e xs i z) (by simpa [pathT, pathS] using hp) (by simp only [setT, h1, Option.map_some])
  simpa [offT, offS, S.size, Ty.size] using this
mutual
theorem sameShape_refl : ∀ {s : S}, plain s = true → sameShape s s = true
 | .st fs, h => by simp only [plain] at h; simp only [sameShape]; exact sameShapeL_refl h
 | .arr .., _ => by simp [sameShape]
 | .junk, h => by simp [plain] at h
 | .tup _, h => by simp [plain] at h
 | .int .., _ | .bool _, _ | .str _, _ | .sl .., _ | .nilsl, _ | .own .., _ | .twn .., _ | .ptr .., _ | .nilp, _ | .iref .., _ | .gptr .., _ | .fn .., _ | .nilfn, _ | .iface .., _ | .nili, _ | .mp _, _ | .nilmp, _ | .err _, _ => by simp [sameShape]
theorem sameShapeL_refl : ∀ {l : List S}, plainL l = true → sameShapeL l l = true
 | [], _ => rfl
 | f :: r, h => by simp only [plainL, Bool.and_eq_true] at h; simp only [sameShapeL, sameShape_refl h.1, sameShapeL_refl h.2, Bool.and_self]
end
theorem sameShapeL_set : ∀ {fs : List S} {i : Nat} {f f' : S}, plainL fs = true → fs[i]? = some f → sameShape f f' = true → sameShapeL fs (fs.set i f') = true
 | [], i, f, f', _, hi, _ => by simp at hi
 | g :: r, 0, f, f', h, hi, hs => by
  simp at hi; subst hi
  simp only [plainL, Bool.and_eq_true] at h
  simp only [List.set_cons_zero, sameShapeL, hs, sameShapeL_refl h.2, Bool.and_self]
 | g :: r, i + 1, f, f', h, hi, hs => by
  simp only [plainL, Bool.and_eq_true] at h
  simp only [List.set_cons_succ, sameShapeL, sameShape_refl h.1, sameShapeL_set h.2 (by simpa using hi) hs, Bool.and_self]
theorem plainL_get : ∀ {fs : List S} {i : Nat} {f : S}, plainL fs = true → fs[i]? = some f → plain f = true
 | [], i, f, _, hi => by simp at hi
 | g :: r, 0, f, h, hi => by simp at hi; subst hi; simp only [plainL, Bool.and_eq_true] at h; exact h.1
 | g :: r, i + 1, f, h, hi => by simp only [plainL, Bool.and_eq_true] at h; exact plainL_get h.2 (by simpa using hi)
theorem setS_shape {low : S → (t : Ty) → Option t.den} {v : S} : ∀ {p : List Step} {s s' : S}, plain s = true → pathS p s → setS low p s v = some s' → sameShape s s' = true ∧ True
 | [], s, s', _, _, h => by
  simp only [setS] at h
  split at h <;> try contradiction
  rename_i hsh
  cases h
  exact ⟨hsh, trivial⟩
 | .fld i :: p, s, s', hpl, hp, h => by
  cases s <;> try (simp [pathS] at hp; done)
  rename_i fs
  simp only [pathS] at hp
  simp only [plain] at hpl
  simp only [setS] at h
  cases hi : fs[i]? with
  | none => simp [hi] at hp
  | some f =>
   simp only [hi] at hp
   simp only [hi, Option.bind_some, Option.map_eq_some_iff] at h
   obtain ⟨f', h1, rfl⟩ := h
   exact ⟨by simp only [sameShape]; exact sameShapeL_set hpl hi (setS_shape (plainL_get hpl hi) hp h1).1, trivial⟩
 | .idx i :: p, s, s', hpl, hp, h => by
  cases s <;> try (simp [pathS] at hp; done)
  simp only [setS, Option.map_eq_some_iff] at h
  obtain ⟨z, h1, rfl⟩ := h
  exact ⟨by simp [sameShape], trivial⟩
theorem setS_rel {low : S → (t : Ty) → Option t.den} {v : S} {ds : List Value} (hv : Rel E tb w v ds) (hl2 : ∀ t y, low v t = some y → v.size = t.size) :
  ∀ {p : List Step} {s s' : S} {cs cs' : List Value}, (thru p = true → ∀ t y, low v t = some y → Rt w (E.ok tb) t ds y) → pathS p s → plain s = true → setS low p s v = some s' →
  Rel E tb w s cs → Spl cs cs' ds (offS p s) → Rel E tb w s' cs' ∧ sameShape s s' = true ∧ ∀ k ∈ keysOf s', k ∈ keysOf s ∨ (thru p = false ∧ k ∈ keysOf v)
 | [], s, s', cs, cs', hl, _, _, h, hr, hs => by
  simp only [setS] at h
  split at h <;> try contradiction
  rename_i hsh
  cases h
  simp only [offS] at hs
  have := hs.full (by rw [Rel.length hv, Rel.length hr, (sameShape_size hsh).1])
  subst this
  exact ⟨hv, hsh, fun k hk => .inr ⟨rfl, hk⟩⟩
 | .fld i :: p, s, s', cs, cs', hl, hp, hpl, h, hr, hs => by
  cases s <;> try (simp [pathS] at hp; done)
  rename_i fs
  simp only [pathS] at hp
  simp only [plain] at hpl
  simp only [setS] at h
  cases hi : fs[i]? with
  | none => simp [hi] at hp
  | some f =>
   simp only [hi] at hp
   simp only [hi, Option.bind_some, Option.map_eq_some_iff] at h
   obtain ⟨f', h1, rfl⟩ := h
   simp only [offS, hi] at hs
   simp only [Rel] at hr
   have hb := setS_bound hl2 hp h1
   obtain ⟨c, c', q1, q2, q3⟩ := Spl.relL hr hi (by rw [Rel.length hv]; exact hb) hs
   obtain ⟨r1, r2, r3⟩ := setS_rel hv hl2 (by simpa [thru] using hl) hp (plainL_get hpl hi) h1 q1 q2
   refine ⟨by simp only [Rel]; exact q3 f' r1, by simp only [sameShape]; exact sameShapeL_set hpl hi r2, fun k hk => ?_⟩
   simp only [keysOf] at hk ⊢
   rcases keysL_set hk with hk | hk
   ·rcases r3 k hk with hk | hk
    ·exact .inl (keysL_get hi k hk)
    ·exact .inr (by simpa [thru] using hk)
   ·exact .inl hk
 | .idx i :: p, s, s', cs, cs', hl, hp, hpl, h, hr, hs => by
  cases s <;> try (simp [pathS] at hp; done)
  rename_i n e xs
  simp only [setS, Option.map_eq_some_iff] at h
  obtain ⟨z, h1, rfl⟩ := h
  have := setT_rt (hl (by simp [thru])) (t := .arr n e) (p := .idx i :: p) (x := xs) (y := setA e xs i z) (cs := cs) (cs' := cs') (by simpa [pathT, pathS] using hp) (by simp only [setT, h1, Option.map_some]) hr (by simpa [offT, offS] using hs)
  exact ⟨this, by simp [sameShape], by simp [keysOf]⟩
end
theorem run_storeRow {P : Program} {b : Nat} {el : TypeId} {fz : Nat × Nat} (o : Nat) : ∀ (vs : List Value) (i : Nat) (cur : Array Value) (w : World), w.heap[b]? = some (.cells cur el fz) → (fz.1 = fz.2 ∨ cur.size ≤ fz.1) → o + i + vs.length ≤ cur.size →
  (∀ v ∈ vs, v.oneCell' = true) → ∃ cur' : Array Value, (storeCells ⟨b, o, none⟩ vs i).run P w = .ok () { w with heap := w.heap.setIfInBounds b (.cells cur' el fz) } ∧ Spl cur.toList cur'.toList vs (o + i)
 | [], i, cur, w, hb, hf, hl, h1 => by
  refine ⟨cur, ?_, rfl, by simpa using hl, fun p => by rw [if_neg (by simp only [List.length_nil]; omega)]⟩
  have hlt : b < w.heap.size := by
   by_cases h : b < w.heap.size
   ·exact h
   ·rw [Array.getElem?_eq_none (by omega)] at hb; cases hb
  have : w.heap.setIfInBounds b (.cells cur el fz) = w.heap := by
   apply Array.ext_getElem?
   intro j
   rw [Array.getElem?_setIfInBounds]
   split
   ·rename_i h; subst h; rw [hb]
   ·rfl
  simp only [storeCells, Sem.run_pure, this]
 | v :: r, i, cur, w, hb, hf, hl, h1 => by
  simp only [List.length_cons] at hl
  have hlt : b < w.heap.size := by
   by_cases h : b < w.heap.size
   ·exact h
   ·rw [Array.getElem?_eq_none (by omega)] at hb; cases hb
  have hcell : w.cell? ⟨b, o + i, none⟩ = some (cur[o + i]'(by omega)) := by
   unfold World.cell?; simp [hb, (by omega : o + i < cur.size)]
  have hfr : w.frozen? ⟨b, o + i, none⟩ = false := by
   unfold World.frozen?; simp only [hb]
   rcases hf with hf | hf
   ·simp only [Bool.and_eq_false_iff, decide_eq_false_iff_not]; omega
   ·simp only [Bool.and_eq_false_iff, decide_eq_false_iff_not]; omega
  have hset : w.setCell ⟨b, o + i, none⟩ v = { w with heap := w.heap.setIfInBounds b (.cells (cur.setIfInBounds (o + i) v) el fz) } := by
   unfold World.setCell
   congr 1
   apply Array.ext_getElem?
   intro j
   rw [Array.getElem?_modify, Array.getElem?_setIfInBounds]
   by_cases hj : b = j
   ·subst hj; rw [if_pos rfl, if_pos rfl, hb]; simp [hlt]
   ·rw [if_neg hj, if_neg hj]
  obtain ⟨cur', q1, q2, q3, q4⟩ := run_storeRow (P := P) (b := b) (el := el) (fz := fz) o r (i + 1) (cur.setIfInBounds (o + i) v) { w with heap := w.heap.setIfInBounds b (.cells (cur.setIfInBounds (o + i) v) el fz) }
   (by simp [hlt]) (by simpa using hf) (by simp; omega) (fun x hx => h1 x (List.mem_cons_of_mem _ hx))
  refine ⟨cur', ?_, by simpa using q2, by simp; omega, fun p => ?_⟩
  ·simp only [storeCells, Sem.run_bind, addr_add, run_store P w _ v _ (h1 v List.mem_cons_self), hcell, hfr, Bool.false_eq_true, if_false, hset, Result.andThen_ok, q1]
   have : (w.heap.setIfInBounds b (.cells (cur.setIfInBounds (o + i) v) el fz)).setIfInBounds b (.cells cur' el fz) = w.heap.setIfInBounds b (.cells cur' el fz) := by
    apply Array.ext_getElem?
    intro j
    simp only [Array.getElem?_setIfInBounds, Array.size_setIfInBounds]
    split <;> rfl
   rw [this]
  ·rw [q4, List.length_cons]
   by_cases hp : p = o + i
   ·subst hp
    rw [if_neg (by omega), if_pos (by omega)]
    simp only [Array.toList_setIfInBounds, Nat.sub_self, List.getElem?_cons_zero]
    rw [List.getElem?_set_self (by simp; omega)]
   ·by_cases hq : o + (i + 1) ≤ p ∧ p < o + (i + 1) + r.length
    ·rw [if_pos hq, if_pos (by omega)]
     obtain ⟨m, hm⟩ : ∃ m, p - (o + i) = m + 1 := ⟨p - (o + i) - 1, by omega⟩
     rw [hm, List.getElem?_cons_succ]; congr 1; omega
    ·rw [if_neg hq, if_neg (by omega)]
     simp only [Array.toList_setIfInBounds]
     rw [List.getElem?_set_ne (fun h => hp h.symm)]
end Go.Ab
