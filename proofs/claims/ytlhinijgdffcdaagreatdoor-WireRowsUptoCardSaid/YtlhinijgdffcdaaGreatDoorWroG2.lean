/- WroG2: a part of the proofs of this seat's statements. -/
import Derived.Test.YtlhinijgdffcdaaGreatDoorWroG1
/- Shown: trees, and how they are held against one another. -/
namespace Go.Ab.T
open Go Go.Ab
set_option linter.unusedVariables false
set_option linter.unusedSimpArgs false
set_option maxRecDepth 20000
theorem gdt {R : Type} (x : Option R) : gd true x = x := rfl
abbrev DD : Sd := Rose.node ((0 : Int), (List.replicate 4 (0 : Int), ())) []
abbrev kd (t : Sd) : Int := (Rose.lab t).1
abbrev stt (t : Sd) : List Int := (Rose.lab t).2.1
abbrev kk (t : Sd) : List Sd := Rose.kids t
theorem eta (t : Sd) : Rose.node (kd t, stt t, ()) (kk t) = t := by
 obtain ⟨⟨k, s, u⟩, ks⟩ := t; rfl
mutual
def dep : Sd → Nat
 | .node _ ks => depL ks + 1
def depL : List Sd → Nat
 | [] => 0
 | x :: r => max (dep x) (depL r)
end
mutual
def nod : Sd → Nat
 | .node _ ks => nodL ks + 1
def nodL : List Sd → Nat
 | [] => 0
 | x :: r => nod x + nodL r
end
mutual
def setsOk : Sd → Prop
 | .node l ks => isSet l.2.1 ∧ setsOkL ks
def setsOkL : List Sd → Prop
 | [] => True
 | x :: r => setsOk x ∧ setsOkL r
end
theorem setsOkL_iff : ∀ {l : List Sd}, setsOkL l ↔ ∀ x ∈ l, setsOk x
 | [] => by simp [setsOkL]
 | x :: r => by simp [setsOkL, setsOkL_iff (l := r)]
theorem setsOk_iff {t : Sd} : setsOk t ↔ isSet (stt t) ∧ ∀ x ∈ kk t, setsOk x := by
 obtain ⟨⟨k, s, u⟩, ks⟩ := t
 show isSet s ∧ setsOkL ks ↔ _
 rw [setsOkL_iff]; rfl
theorem dep_pos (t : Sd) : 1 ≤ dep t := by obtain ⟨l, ks⟩ := t; unfold dep; omega
theorem nod_pos (t : Sd) : 1 ≤ nod t := by obtain ⟨l, ks⟩ := t; unfold nod; omega
theorem depL_mem : ∀ {l : List Sd} {x : Sd}, x ∈ l → dep x ≤ depL l
 | y :: r, x, h => by
  unfold depL
  rcases List.mem_cons.1 h with rfl | h
  ·omega
  ·have := depL_mem h; omega
theorem nodL_mem : ∀ {l : List Sd} {x : Sd}, x ∈ l → nod x ≤ nodL l
 | y :: r, x, h => by
  unfold nodL
  rcases List.mem_cons.1 h with rfl | h
  ·omega
  ·have := nodL_mem h; omega
theorem nodL_len : ∀ l : List Sd, l.length ≤ nodL l
 | [] => Nat.zero_le _
 | x :: r => by
  have := nodL_len r; have := nod_pos x
  unfold nodL; simp only [List.length_cons]; omega
theorem dep_eq (t : Sd) : dep t = depL (kk t) + 1 := by obtain ⟨l, ks⟩ := t; rfl
theorem nod_eq (t : Sd) : nod t = nodL (kk t) + 1 := by obtain ⟨l, ks⟩ := t; rfl
theorem dep_kid {t x : Sd} (h : x ∈ kk t) : dep x + 1 ≤ dep t := by rw [dep_eq t]; have := depL_mem h; omega
theorem nod_kid {t x : Sd} (h : x ∈ kk t) : nod x + 1 ≤ nod t := by rw [nod_eq t]; have := nodL_mem h; omega
theorem kk_len (t : Sd) : (kk t).length + 1 ≤ nod t := by rw [nod_eq t]; have := nodL_len (kk t); omega
theorem nodL_append : ∀ a b : List Sd, nodL (a ++ b) = nodL a + nodL b
 | [], b => by simp [nodL]
 | x :: a, b => by simp only [List.cons_append, nodL, nodL_append a b]; omega
open Classical in
noncomputable def lessS (s t : List Int) : Bool := decide (ahead s t)
theorem lessS_iff {s t : List Int} : lessS s t = true ↔ ahead s t := by unfold lessS; simp
theorem ahead_asymm {s t : List Int} (h : ahead s t) : ¬ ahead t s := by
 obtain ⟨b, hb, h1, h2, h3⟩ := h
 rintro ⟨c, hc, g1, g2, g3⟩
 rcases Nat.lt_trichotomy b c with h | h | h
 ·have := g3 b h; rw [h1, h2] at this; cases this
 ·subst h; rw [h1] at g2; cases g2
 ·have := h3 c h; rw [g1, g2] at this; cases this
theorem ahead_trans {s t u : List Int} (h : ahead s t) (g : ahead t u) : ahead s u := by
 obtain ⟨b, hb, h1, h2, h3⟩ := h
 obtain ⟨c, hc, g1, g2, g3⟩ := g
 rcases Nat.lt_trichotomy b c with h | h | h
 ·exact ⟨b, hb, h1, by rw [← g3 b h]; exact h2, fun d hd => by rw [h3 d hd, g3 d (by omega)]⟩
 ·subst h; rw [h2] at g1; cases g1
 ·exact ⟨c, hc, by rw [h3 c h]; exact g1, g2, fun d hd => by rw [h3 d (by omega), g3 d hd]⟩
theorem ahead_total {s t : List Int} (hs : isSet s) (ht : isSet t) (h : s ≠ t) : ahead s t ∨ ahead t s := by
 have hex : ∃ b, b < 256 ∧ mem s b ≠ mem t b := by
  refine Classical.byContradiction fun hno => h ?_
  rw [← setOf_mem hs, ← setOf_mem ht]
  refine setOf_congr fun b hb => ?_
  exact Classical.byContradiction fun hne => hno ⟨b, hb, hne⟩
 obtain ⟨b, hb, hne⟩ := hex
 have hmin : ∀ n, n < 256 → mem s n ≠ mem t n → ∃ b, b < 256 ∧ mem s b ≠ mem t b ∧ ∀ c, c < b → mem s c = mem t c := by
  intro n
  induction n using Nat.strongRecOn with
  | _ n ih =>
   intro hn hne
   by_cases hex : ∃ m, m < n ∧ mem s m ≠ mem t m
   ·obtain ⟨m, hm, hmn⟩ := hex
    exact ih m hm (by omega) hmn
   ·exact ⟨n, hn, hne, fun c hc => Classical.byContradiction fun q => hex ⟨c, hc, q⟩⟩
 obtain ⟨b, hb, hne, hlow⟩ := hmin b hb hne
 cases h1 : mem s b with
 | true => exact Or.inl ⟨b, hb, h1, by rw [h1] at hne; cases h2 : mem t b with
  | true => rw [h2] at hne; exact absurd rfl hne
  | false => rfl, hlow⟩
 | false => exact Or.inr ⟨b, hb, by rw [h1] at hne; cases h2 : mem t b with
  | true => rfl
  | false => rw [h2] at hne; exact absurd rfl hne, h1, fun c hc => (hlow c hc).symm⟩
mutual
noncomputable def cmpT : Sd → Sd → Int
 | .node l ks, .node m js =>
  if l.1 < m.1 then -1 else if m.1 < l.1 then 1
  else if l.1 = 3 ∧ l.2.1 ≠ m.2.1 then (if lessS l.2.1 m.2.1 = true then -1 else 1)
  else cmpL ks js
noncomputable def cmpL : List Sd → List Sd → Int
 | [], [] => 0
 | [], _ :: _ => -1
 | _ :: _, [] => 1
 | x :: r, y :: q => if cmpT x y = 0 then cmpL r q else cmpT x y
end
theorem cmpT_eq (t u : Sd) : cmpT t u = if kd t < kd u then -1 else if kd u < kd t then 1
  else if kd t = 3 ∧ stt t ≠ stt u then (if lessS (stt t) (stt u) = true then -1 else 1)
  else cmpL (kk t) (kk u) := by
 obtain ⟨l, ks⟩ := t
 obtain ⟨m, js⟩ := u
 rfl
theorem cmpL_cons (x y : Sd) (r q : List Sd) : cmpL (x :: r) (y :: q) = if cmpT x y = 0 then cmpL r q else cmpT x y := rfl
theorem getD_drop {α : Type} (l : List α) (i : Nat) (h : i < l.length) (d : α) : l.drop i = l.getD i d :: l.drop (i + 1) := by
 rw [List.drop_eq_getElem_cons h]
 congr 1
 rw [List.getD_eq_getElem?_getD, List.getElem?_eq_getElem h]; rfl
theorem rcl10 {R : Type} (c : Int → List Int → List Sd → Int → List Int → List Sd → (Int → Option R) → Option R) (kf : Nat) (k0 k1 : Int) (s0 s1 : List Int) (ks js : List Sd) (hl : ks.length ≤ 100000)
  (hc : ∀ x ∈ ks, ∀ y ∈ js, ∀ K : Int → Option R, c (kd x) (stt x) (kk x) (kd y) (stt y) (kk y) K = K (cmpT x y)) (K : Int → Option R) :
  ∀ (m k i : Nat), i + m = ks.length → m < k → i ≤ js.length →
  yy32_l10 c kf k k0 s0 ks k1 s1 js (fun v17 _ _ _ _ _ _ => K v17) (fun _ _ v26 _ _ v29 => bif decide ((v26.length : Int) < (v29.length : Int)) then (K (-1)) else (bif decide ((v29.length : Int) < (v26.length : Int)) then (K 1) else (K 0))) (i : Int) = K (cmpL (ks.drop i) (js.drop i))
 | m, 0, i, _, h, _ => by omega
 | 0, k + 1, i, hi, _, hj => by
  unfold yy32_l10 yy32_l10_b
  rw [decide_eq_false (by omega), cond_false, List.drop_eq_nil_of_le (by omega)]
  dsimp only
  by_cases h : ks.length < js.length
  ·rw [decide_eq_true (by omega), cond_true, getD_drop js i (by omega) DD]; rfl
  ·rw [decide_eq_false (by omega), cond_false, decide_eq_false (by omega), cond_false, List.drop_eq_nil_of_le (by omega)]; rfl
 | m + 1, k + 1, i, hi, hk, hj => by
  unfold yy32_l10 yy32_l10_b
  have g0 : decide (0 ≤ (i : Int)) = true := decide_eq_true (by omega)
  have g1 : decide ((i : Int) < (ks.length : Int)) = true := decide_eq_true (by omega)
  rw [getD_drop ks i (by omega) DD]
  simp only [g0, g1, gdt, cond_true]
  by_cases h : js.length ≤ i
  ·rw [decide_eq_false (by omega), cond_false, decide_eq_false (by omega), cond_false, decide_eq_true (by omega), cond_true, List.drop_eq_nil_of_le h]; rfl
  ·have g2 : decide ((i : Int) < (js.length : Int)) = true := decide_eq_true (by omega)
   rw [getD_drop js i (by omega) DD, cmpL_cons]
   simp only [g2, gdt, cond_true]
   rw [show Int.toNat (i : Int) = i from rfl]
   refine (hc _ (getD_mem ks i (by omega) DD) _ (getD_mem js i (by omega) DD) _).trans ?_
   by_cases h0 : cmpT (ks.getD i DD) (js.getD i DD) = 0
   ·rw [decide_eq_true h0, Bool.not_true, cond_false, if_pos h0, wi1s i (by omega)]
    exact rcl10 c kf k0 k1 s0 s1 ks js hl hc K m k (i + 1) (by omega) (by omega) (by omega)
   ·rw [decide_eq_false h0, Bool.not_false, cond_true, if_neg h0]
theorem rcmp_ok {R : Type} : ∀ (n : Nat) (t u : Sd) (kf : Nat), dep t ≤ n → 3000 + n ≤ kf → nod t ≤ 2000 → setsOk t → setsOk u → ∀ K : Int → Option R, yy32 kf (kd t) (stt t) (kk t) (kd u) (stt u) (kk u) K = K (cmpT t u)
 | 0, t, u, kf, h, _, _, _, _, K => by have := dep_pos t; omega
 | n + 1, t, u, 0, _, h, _, _, _, K => by omega
 | n + 1, t, u, kf + 1, hd, hk, hn, hs, hu, K => by
  have ht := setsOk_iff.1 hs
  have hu' := setsOk_iff.1 hu
  rw [cmpT_eq]
  unfold yy32 yy32_b
  dsimp only
  by_cases h1 : kd t < kd u
  ·rw [decide_eq_false (by omega), Bool.not_false, cond_true, decide_eq_true h1, cond_true, if_pos h1]
  rw [if_neg h1]
  by_cases h2 : kd u < kd t
  ·rw [decide_eq_false (by omega), Bool.not_false, cond_true, decide_eq_false h1, cond_false, if_pos h2]
  rw [if_neg h2, decide_eq_true (by omega : kd t = kd u), Bool.not_true, cond_false]
  have hrec := rcl10 (yy32 kf) kf (kd t) (kd u) (stt t) (stt u) (kk t) (kk u) (by have := kk_len t; omega) (fun x hx y hy K => rcmp_ok n x y kf (by have := dep_kid hx; omega) (by omega) (by have := nod_kid hx; omega) (ht.2 x hx) (hu'.2 y hy) K) K (kk t).length kf 0 (by omega) (by have := kk_len t; omega) (by omega)
  by_cases h3 : kd t = 3
  ·rw [decide_eq_true h3, cond_true]
   by_cases h4 : stt t = stt u
   ·rw [decide_eq_true h4, Bool.not_true, cond_false, if_neg (fun q => q.2 h4)]; exact hrec
   ·rw [decide_eq_false h4, Bool.not_false, cond_true, if_pos ⟨h3, h4⟩]
    obtain ⟨r, hr1, hr2⟩ := rless_s kf (by omega) (mem (stt t)) (mem (stt u))
    rw [setOf_mem ht.1, setOf_mem hu'.1] at hr2
    have hr1 : r = true ↔ ahead (stt t) (stt u) := hr1
    rw [hr2]
    cases r with
    | true => rw [cond_true, if_pos (lessS_iff.2 (hr1.1 rfl))]
    | false => rw [cond_false, if_neg (fun q => by have := hr1.2 (lessS_iff.1 q); cases this)]
  ·rw [decide_eq_false h3, cond_false, cond_false, if_neg (fun q => h3 q.1)]; exact hrec
end Go.Ab.T

/- Shown: the order of trees. -/
namespace Go.Ab.T
open Go Go.Ab
set_option linter.unusedVariables false
set_option linter.unusedSimpArgs false
set_option maxRecDepth 20000
def dif (t u : Sd) : Prop := kd t = 3 ∧ stt t ≠ stt u
theorem cmp_m1 {t u : Sd} : cmpT t u = -1 ↔ kd t < kd u ∨ (kd t = kd u ∧ ((dif t u ∧ ahead (stt t) (stt u)) ∨ (¬ dif t u ∧ cmpL (kk t) (kk u) = -1))) := by
 rw [cmpT_eq]
 by_cases h1 : kd t < kd u
 ·rw [if_pos h1]; exact ⟨fun _ => Or.inl h1, fun _ => rfl⟩
 rw [if_neg h1]
 by_cases h2 : kd u < kd t
 ·rw [if_pos h2]
  refine ⟨fun h => absurd h (by omega), ?_⟩
  rintro (h | ⟨h, _⟩) <;> omega
 rw [if_neg h2]
 have he : kd t = kd u := by omega
 by_cases h3 : kd t = 3 ∧ stt t ≠ stt u
 ·rw [if_pos h3]
  by_cases h4 : lessS (stt t) (stt u) = true
  ·rw [if_pos h4]; exact ⟨fun _ => Or.inr ⟨he, Or.inl ⟨h3, lessS_iff.1 h4⟩⟩, fun _ => rfl⟩
  ·rw [if_neg h4]
   refine ⟨fun h => absurd h (by omega), ?_⟩
   rintro (h | ⟨_, ⟨_, h⟩ | ⟨h, _⟩⟩)
   ·exact absurd h h1
   ·exact absurd (lessS_iff.2 h) h4
   ·exact absurd h3 h
 ·rw [if_neg h3]
  refine ⟨fun h => Or.inr ⟨he, Or.inr ⟨h3, h⟩⟩, ?_⟩
  rintro (h | ⟨_, ⟨h, _⟩ | ⟨_, h⟩⟩)
  ·exact absurd h h1
  ·exact absurd h h3
  ·exact h
theorem cmp_0 {t u : Sd} : cmpT t u = 0 ↔ kd t = kd u ∧ ¬ dif t u ∧ cmpL (kk t) (kk u) = 0 := by
 rw [cmpT_eq]
 by_cases h1 : kd t < kd u
 ·rw [if_pos h1]; exact ⟨fun h => absurd h (by omega), fun h => by omega⟩
 rw [if_neg h1]
 by_cases h2 : kd u < kd t
 ·rw [if_pos h2]; exact ⟨fun h => absurd h (by omega), fun h => by omega⟩
 rw [if_neg h2]
 have he : kd t = kd u := by omega
 by_cases h3 : kd t = 3 ∧ stt t ≠ stt u
 ·rw [if_pos h3]
  refine ⟨fun h => ?_, fun h => absurd h3 h.2.1⟩
  split at h <;> omega
 ·rw [if_neg h3]; exact ⟨fun h => ⟨he, h3, h⟩, fun h => h.2.2⟩
theorem cmp_vals : ∀ (n : Nat) (t u : Sd), dep t ≤ n → cmpT t u = -1 ∨ cmpT t u = 0 ∨ cmpT t u = 1
 | 0, t, u, h => by have := dep_pos t; omega
 | n + 1, t, u, h => by
  have key : ∀ l m : List Sd, (∀ x ∈ l, dep x ≤ n) → cmpL l m = -1 ∨ cmpL l m = 0 ∨ cmpL l m = 1 := by
   intro l
   induction l with
   | nil => intro m _; cases m; exact Or.inr (Or.inl rfl); exact Or.inl rfl
   | cons x r ih =>
    intro m hx
    cases m with
    | nil => exact Or.inr (Or.inr rfl)
    | cons y q =>
     rw [cmpL_cons]
     by_cases h0 : cmpT x y = 0
     ·rw [if_pos h0]; exact ih q fun z hz => hx z (by simp [hz])
     ·rw [if_neg h0]; exact cmp_vals n x y (hx x (by simp))
  rw [cmpT_eq]
  split
  ·exact Or.inl rfl
  split
  ·exact Or.inr (Or.inr rfl)
  split
  ·split
   ·exact Or.inl rfl
   ·exact Or.inr (Or.inr rfl)
  ·exact key _ _ fun x hx => by have := dep_kid hx; omega
theorem cmp_anti : ∀ (n : Nat) (t u : Sd), dep t ≤ n → setsOk t → setsOk u → cmpT u t = -(cmpT t u)
 | 0, t, u, h, _, _ => by have := dep_pos t; omega
 | n + 1, t, u, h, ht, hu => by
  have ht' := setsOk_iff.1 ht
  have hu' := setsOk_iff.1 hu
  have key : ∀ l m : List Sd, (∀ x ∈ l, dep x ≤ n ∧ setsOk x) → (∀ x ∈ m, setsOk x) → cmpL m l = -(cmpL l m) := by
   intro l
   induction l with
   | nil => intro m _ _; cases m; rfl; rfl
   | cons x r ih =>
    intro m hx hm
    cases m with
    | nil => rfl
    | cons y q =>
     rw [cmpL_cons, cmpL_cons, cmp_anti n x y (hx x (by simp)).1 (hx x (by simp)).2 (hm y (by simp))]
     by_cases h0 : cmpT x y = 0
     ·rw [if_pos h0, if_pos (by omega)]; exact ih q (fun z hz => hx z (by simp [hz])) fun z hz => hm z (by simp [hz])
     ·rw [if_neg h0, if_neg (by omega)]
  rw [cmpT_eq, cmpT_eq]
  by_cases h1 : kd t < kd u
  ·rw [if_neg (by omega), if_pos h1, if_pos h1]; rfl
  by_cases h2 : kd u < kd t
  ·rw [if_pos h2, if_neg (by omega), if_pos h2]
  rw [if_neg h2, if_neg h1, if_neg h1, if_neg h2]
  by_cases h3 : kd t = 3 ∧ stt t ≠ stt u
  ·rw [if_pos h3, if_pos ⟨by omega, fun e => h3.2 e.symm⟩]
   rcases ahead_total ht'.1 hu'.1 h3.2 with g | g
   ·rw [if_neg (fun q => ahead_asymm g (lessS_iff.1 q)), if_pos (lessS_iff.2 g)]; rfl
   ·rw [if_pos (lessS_iff.2 g), if_neg (fun q => ahead_asymm g (lessS_iff.1 q))]
  ·rw [if_neg h3, if_neg (fun q => h3 ⟨by omega, fun e => q.2 e.symm⟩)]
   exact key _ _ (fun x hx => ⟨by have := dep_kid hx; omega, ht'.2 x hx⟩) hu'.2
theorem cmp_trans : ∀ (n : Nat) (t u v : Sd), dep t ≤ n → setsOk t → setsOk u → setsOk v →
  (cmpT t u = 0 → cmpT t v = cmpT u v) ∧ (cmpT u v = 0 → cmpT t u = cmpT t v) ∧ (cmpT t u = -1 → cmpT u v = -1 → cmpT t v = -1)
 | 0, t, u, v, h, _, _, _ => by have := dep_pos t; omega
 | n + 1, t, u, v, h, ht, hu, hv => by
  have ht' := setsOk_iff.1 ht
  have hu' := setsOk_iff.1 hu
  have hv' := setsOk_iff.1 hv
  have key : ∀ l m o : List Sd, (∀ x ∈ l, dep x ≤ n ∧ setsOk x) → (∀ x ∈ m, setsOk x) → (∀ x ∈ o, setsOk x) →
    (cmpL l m = 0 → cmpL l o = cmpL m o) ∧ (cmpL m o = 0 → cmpL l m = cmpL l o) ∧ (cmpL l m = -1 → cmpL m o = -1 → cmpL l o = -1) := by
   intro l
   induction l with
   | nil =>
    intro m o _ _ _
    cases m with
    | nil => exact ⟨fun _ => rfl, fun h => h.symm, fun h _ => absurd (show (0 : Int) = -1 from h) (by decide)⟩
    | cons y q =>
     cases o with
     | nil => exact ⟨fun h => absurd (show (-1 : Int) = 0 from h) (by decide), fun h => absurd (show (1 : Int) = 0 from h) (by decide), fun _ h => absurd (show (1 : Int) = -1 from h) (by decide)⟩
     | cons z p => exact ⟨fun h => absurd (show (-1 : Int) = 0 from h) (by decide), fun _ => rfl, fun _ _ => rfl⟩
   | cons x r ih =>
    intro m o hx hm ho
    cases m with
    | nil =>
     cases o with
     | nil => exact ⟨fun h => absurd (show (1 : Int) = 0 from h) (by decide), fun _ => rfl, fun h _ => absurd (show (1 : Int) = -1 from h) (by decide)⟩
     | cons z p => exact ⟨fun h => absurd (show (1 : Int) = 0 from h) (by decide), fun h => absurd (show (-1 : Int) = 0 from h) (by decide), fun h _ => absurd (show (1 : Int) = -1 from h) (by decide)⟩
    | cons y q =>
     cases o with
     | nil =>
      exact ⟨fun _ => rfl, fun h => absurd (show (1 : Int) = 0 from h) (by decide), fun _ h => absurd (show (1 : Int) = -1 from h) (by decide)⟩
     | cons z p =>
      obtain ⟨a1, a2, a3⟩ := cmp_trans n x y z (hx x (by simp)).1 (hx x (by simp)).2 (hm y (by simp)) (ho z (by simp))
      obtain ⟨b1, b2, b3⟩ := ih q p (fun w hw => hx w (by simp [hw])) (fun w hw => hm w (by simp [hw])) fun w hw => ho w (by simp [hw])
      rw [cmpL_cons, cmpL_cons, cmpL_cons]
      refine ⟨fun h => ?_, fun h => ?_, fun h h' => ?_⟩
      ·by_cases h0 : cmpT x y = 0
       ·rw [if_pos h0] at h
        rw [a1 h0, b1 h]
       ·rw [if_neg h0] at h; exact absurd h h0
      ·by_cases h0 : cmpT y z = 0
       ·rw [if_pos h0] at h
        rw [a2 h0, b2 h]
       ·rw [if_neg h0] at h; exact absurd h h0
      ·by_cases h0 : cmpT x y = 0
       ·rw [if_pos h0] at h
        rw [a1 h0]
        by_cases h1 : cmpT y z = 0
        ·rw [if_pos h1] at h' ⊢; exact b3 h h'
        ·rw [if_neg h1] at h' ⊢; exact h'
       ·rw [if_neg h0] at h
        by_cases h1 : cmpT y z = 0
        ·have := a2 h1
         rw [← this, if_neg h0]; exact h
        ·rw [if_neg h1] at h'
         have := a3 h h'
         rw [this, if_neg (by decide)]
  obtain ⟨k1, k2, k3⟩ := key (kk t) (kk u) (kk v) (fun x hx => ⟨by have := dep_kid hx; omega, ht'.2 x hx⟩) hu'.2 hv'.2
  refine ⟨fun h => ?_, fun h => ?_, fun h h' => ?_⟩
  ·obtain ⟨e1, e2, e3⟩ := cmp_0.1 h
   rw [cmpT_eq t v, cmpT_eq u v, e1, k1 e3]
   by_cases h3 : kd u = 3
   ·have : stt t = stt u := Classical.byContradiction fun q => e2 ⟨by omega, q⟩
    rw [this]
   ·have e : ∀ s : List Int, (kd u = 3 ∧ s ≠ stt v) = False := fun s => by simp [h3]
    simp only [e, if_false]
  ·obtain ⟨e1, e2, e3⟩ := cmp_0.1 h
   rw [cmpT_eq t u, cmpT_eq t v, e1, k2 e3]
   by_cases h3 : kd u = 3
   ·have : stt u = stt v := Classical.byContradiction fun q => e2 ⟨by omega, q⟩
    rw [this]
   ·by_cases h4 : kd t = 3
    ·by_cases q1 : kd t < kd v
     ·rw [if_pos q1, if_pos q1]
     ·by_cases q2 : kd v < kd t
      ·rw [if_neg q1, if_neg q1, if_pos q2, if_pos q2]
      ·omega
    ·have e : ∀ s : List Int, (kd t = 3 ∧ stt t ≠ s) = False := fun s => by simp [h4]
     simp only [e, if_false]
  ·rw [cmp_m1] at h h' ⊢
   rcases h with h | ⟨e1, h⟩
   ·rcases h' with h' | ⟨e2, h'⟩
    ·left; omega
    ·left; omega
   ·rcases h' with h' | ⟨e2, h'⟩
    ·left; omega
    ·right
     refine ⟨by omega, ?_⟩
     rcases h with ⟨d1, g1⟩ | ⟨d1, g1⟩
     ·rcases h' with ⟨d2, g2⟩ | ⟨d2, g2⟩
      ·left
       have := ahead_trans g1 g2
       refine ⟨⟨d1.1, fun e => ?_⟩, this⟩
       rw [e] at this
       exact ahead_asymm this this
      ·left
       have e : stt u = stt v := Classical.byContradiction fun q => d2 ⟨by have := d1.1; omega, q⟩
       rw [← e]
       exact ⟨⟨d1.1, by rw [← e]; exact d1.2⟩, g1⟩
     ·rcases h' with ⟨d2, g2⟩ | ⟨d2, g2⟩
      ·left
       have e : stt t = stt u := Classical.byContradiction fun q => d1 ⟨by have := d2.1; omega, q⟩
       rw [e]
       exact ⟨⟨by have := d2.1; omega, by rw [e]; exact d2.2⟩, g2⟩
      ·right
       refine ⟨fun q => ?_, k3 g1 g2⟩
       have e1' : stt t = stt u := Classical.byContradiction fun z => d1 ⟨q.1, z⟩
       have e2' : stt u = stt v := Classical.byContradiction fun z => d2 ⟨by have := q.1; omega, z⟩
       exact q.2 (e1'.trans e2')
noncomputable def riseL : List Sd → Bool
 | x :: y :: r => decide (cmpT x y < 0) && riseL (y :: r)
 | _ => true
theorem cmp_lt {t u : Sd} (h : cmpT t u < 0) : cmpT t u = -1 := by
 rcases cmp_vals _ t u (Nat.le_refl _) with q | q | q <;> omega
theorem rise_all : ∀ {l : List Sd} {x : Sd}, (∀ y ∈ x :: l, setsOk y) → riseL (x :: l) = true → ∀ y ∈ l, cmpT x y = -1
 | [], x, _, _, y, h => by cases h
 | z :: r, x, hs, hr, y, h => by
  simp only [riseL, Bool.and_eq_true, decide_eq_true_eq] at hr
  have h1 := cmp_lt hr.1
  rcases List.mem_cons.1 h with rfl | h
  ·exact h1
  ·have h2 := rise_all (fun w hw => hs w (by simp [hw])) hr.2 y h
   exact (cmp_trans _ x z y (Nat.le_refl _) (hs x (by simp)) (hs z (by simp)) (hs y (by simp [h]))).2.2 h1 h2
theorem rise_tail {x : Sd} {l : List Sd} (h : riseL (x :: l) = true) : riseL l = true := by
 cases l with
 | nil => rfl
 | cons y r => simp only [riseL, Bool.and_eq_true] at h; exact h.2
noncomputable def insT : List Sd → Sd → List Sd
 | [], r => [r]
 | x :: l, r => if cmpT x r < 0 then x :: insT l r else if cmpT x r = 0 then x :: l else r :: x :: l
theorem insT_mem : ∀ {l : List Sd} {r y : Sd}, y ∈ insT l r → y = r ∨ y ∈ l
 | [], r, y, h => Or.inl (List.mem_singleton.1 h)
 | x :: l, r, y, h => by
  unfold insT at h
  split at h
  ·rcases List.mem_cons.1 h with rfl | h
   ·exact Or.inr (by simp)
   ·rcases insT_mem h with h | h
    ·exact Or.inl h
    ·exact Or.inr (by simp [h])
  ·split at h
   ·exact Or.inr h
   ·rcases List.mem_cons.1 h with rfl | h
    ·exact Or.inl rfl
    ·exact Or.inr h
theorem insT_rise : ∀ {l : List Sd} {r : Sd}, (∀ y ∈ l, setsOk y) → setsOk r → riseL l = true → riseL (insT l r) = true
 | [], r, _, _, _ => rfl
 | x :: l, r, hs, hr, h => by
  unfold insT
  by_cases h1 : cmpT x r < 0
  ·rw [if_pos h1]
   have ih := insT_rise (r := r) (fun y hy => hs y (by simp [hy])) hr (rise_tail h)
   cases l with
   | nil => simp only [insT, riseL, Bool.and_true, decide_eq_true_eq]; exact h1
   | cons z q =>
    simp only [riseL, Bool.and_eq_true, decide_eq_true_eq] at h
    unfold insT at ih ⊢
    split
    ·rename_i g
     rw [if_pos g] at ih
     simp only [riseL, Bool.and_eq_true, decide_eq_true_eq]
     exact ⟨h.1, ih⟩
    ·rename_i g
     rw [if_neg g] at ih
     split
     ·rename_i g2
      rw [if_pos g2] at ih
      simp only [riseL, Bool.and_eq_true, decide_eq_true_eq]
      exact ⟨h.1, ih⟩
     ·rename_i g2
      rw [if_neg g2] at ih
      simp only [riseL, Bool.and_eq_true, decide_eq_true_eq] at ih ⊢
      exact ⟨h1, ih⟩
  ·rw [if_neg h1]
   by_cases h2 : cmpT x r = 0
   ·rw [if_pos h2]; exact h
   ·rw [if_neg h2]
    simp only [riseL, Bool.and_eq_true, decide_eq_true_eq]
    refine ⟨?_, h⟩
    have := cmp_anti _ x r (Nat.le_refl _) (hs x (by simp)) hr
    rcases cmp_vals _ x r (Nat.le_refl _) with q | q | q <;> omega
theorem insT_end : ∀ {l m : List Sd} {r : Sd}, (∀ y ∈ l, cmpT y r = -1) → (∀ y ∈ m, cmpT y r = 1) → insT (l ++ m) r = l ++ r :: m
 | [], [], r, _, _ => rfl
 | [], y :: m, r, _, h => by
  have := h y (by simp)
  show insT (y :: m) r = r :: y :: m
  unfold insT
  rw [if_neg (by omega), if_neg (by omega)]
 | x :: l, m, r, h, h' => by
  show insT (x :: (l ++ m)) r = x :: (l ++ r :: m)
  unfold insT
  rw [if_pos (by have := h x (by simp); omega), insT_end (fun y hy => h y (by simp [hy])) h']
end Go.Ab.T

/- Shown: the reference's constructors. -/
namespace Go.Ab.T
open Go Go.Ab
set_option linter.unusedVariables false
set_option linter.unusedSimpArgs false
set_option maxRecDepth 20000
theorem small_of {n : Nat} (h : n ≤ 100000000) : decide (n < SMALL) = true := decide_eq_true (by show _ < 17179869184; omega)
def Fit (n : Nat) (t : Sd) : Prop := dep t ≤ n ∧ nod t ≤ 2000 ∧ setsOk t
theorem Fit.kid {n : Nat} {t x : Sd} (h : Fit (n + 1) t) (hx : x ∈ kk t) : Fit n x :=
 ⟨by have := dep_kid hx; have := h.1; omega, by have := nod_kid hx; have := h.2.1; omega, (setsOk_iff.1 h.2.2).2 x hx⟩
theorem Fit.mono {n m : Nat} {t : Sd} (h : Fit n t) (hm : n ≤ m) : Fit m t := ⟨Nat.le_trans h.1 hm, h.2⟩
theorem cpl3 {R : Type} (c : Int → List Int → List Sd → (Int → List Int → List Sd → Option R) → Option R) (kf : Nat) (v5 : Int) (v6 : List Int) (ks : List Sd) (v8 : Int) (v9 : List Int) (v11 : List Sd) (hl : ks.length ≤ 100000)
  (hc : ∀ x ∈ ks, ∀ K : Int → List Int → List Sd → Option R, c (kd x) (stt x) (kk x) K = K (kd x) (stt x) (kk x)) (Ke : Int → List Int → List Sd → Int → List Int → List Sd → List Sd → Option R) :
  ∀ (m k i : Nat) (acc : List Sd), i + m = ks.length → m < k → acc.length ≤ i → yy33_l3 c kf k v5 v6 ks v8 v9 v11 Ke (i : Int) acc = Ke v5 v6 ks v8 v9 (acc ++ ks.drop i) v11
 | m, 0, i, acc, _, h, _ => by omega
 | 0, k + 1, i, acc, hi, _, _ => by
  unfold yy33_l3 yy33_l3_b
  rw [decide_eq_false (by omega), cond_false, List.drop_eq_nil_of_le (by omega), List.append_nil]
 | m + 1, k + 1, i, acc, hi, hk, ha => by
  have g0 : decide (0 ≤ (i : Int)) = true := decide_eq_true (by omega)
  have g1 : decide ((i : Int) < (ks.length : Int)) = true := decide_eq_true (by omega)
  unfold yy33_l3 yy33_l3_b
  rw [getD_drop ks i (by omega) DD]
  simp only [g0, g1, gdt, cond_true]
  rw [show Int.toNat (i : Int) = i from rfl]
  refine (hc _ (getD_mem ks i (by omega) DD) _).trans ?_
  rw [gd_true (small_of (by simp; omega)), wi1s i (by omega), eta]
  rw [cpl3 c kf v5 v6 ks v8 v9 v11 hl hc Ke m k (i + 1) _ (by omega) (by omega) (by simp; omega)]
  simp
theorem copy_ok {R : Type} : ∀ (n : Nat) (t : Sd) (kf : Nat), dep t ≤ n → 3000 + n ≤ kf → nod t ≤ 2000 → ∀ K : Int → List Int → List Sd → Option R, yy33 kf (kd t) (stt t) (kk t) K = K (kd t) (stt t) (kk t)
 | 0, t, kf, h, _, _, K => by have := dep_pos t; omega
 | n + 1, t, 0, _, h, _, K => by omega
 | n + 1, t, kf + 1, hd, hk, hn, K => by
  unfold yy33 yy33_b
  have := kk_len t
  refine (cpl3 (yy33 kf) kf (kd t) (stt t) (kk t) 0 ZS [] (by omega) (fun x hx K => copy_ok n x kf (by have := dep_kid hx; omega) (by omega) (by have := nod_kid hx; omega) K) _ (kk t).length kf 0 [] (by omega) (by omega) (by simp)).trans ?_
  rw [List.nil_append, List.drop_zero]
def flatT (k : Int) (l : List Sd) : List Sd := l.flatMap fun x => if kd x = k then kk x else [x]
theorem flatT_cons (k : Int) (x : Sd) (l : List Sd) : flatT k (x :: l) = (if kd x = k then kk x else [x]) ++ flatT k l := List.flatMap_cons
theorem flatT_nod (k : Int) : ∀ l : List Sd, nodL (flatT k l) ≤ nodL l
 | [] => Nat.le_refl _
 | x :: l => by
  have := flatT_nod k l
  rw [flatT_cons, nodL_append, show nodL (x :: l) = nod x + nodL l from rfl]
  split
  ·rw [nod_eq x]; omega
  ·rw [show nodL [x] = nod x + 0 from rfl]; omega
theorem flat_l3 {R : Type} (kf : Nat) (c : Int) (ks : List Sd) (hl : nodL ks ≤ 100000) (Ke : List Sd → Option R) :
  ∀ (m k i : Nat) (acc : List Sd), i + m = ks.length → m < k → acc.length ≤ 1000000 - nodL (ks.drop i) → yy43_l3 kf k c ks Ke (i : Int) acc = Ke (acc ++ flatT c (ks.drop i))
 | m, 0, i, acc, _, h, _ => by omega
 | 0, k + 1, i, acc, hi, _, _ => by
  unfold yy43_l3 yy43_l3_b
  rw [decide_eq_false (by omega), cond_false, List.drop_eq_nil_of_le (by omega)]; simp [flatT]
 | m + 1, k + 1, i, acc, hi, hk, ha => by
  have g0 : decide (0 ≤ (i : Int)) = true := decide_eq_true (by omega)
  have g1 : decide ((i : Int) < (ks.length : Int)) = true := decide_eq_true (by omega)
  have hdrop := getD_drop ks i (by omega) DD
  have hkl := nodL_len ks
  have hnl : nodL (ks.drop i) ≤ 100000 := by
   have h1 : ks = ks.take i ++ ks.drop i := (List.take_append_drop i ks).symm
   have h2 : nodL ks = nodL (ks.take i) + nodL (ks.drop i) := by conv => lhs; rw [h1]; rw [nodL_append]
   omega
  rw [hdrop] at ha hnl
  have hx := kk_len (ks.getD i DD)
  simp only [nodL] at ha hnl
  unfold yy43_l3 yy43_l3_b
  rw [hdrop, flatT_cons]
  simp only [g0, g1, gdt, cond_true]
  rw [show Int.toNat (i : Int) = i from rfl, wi1s i (by omega)]
  generalize ks.getD i DD = x at *
  have hx : (Rose.kids x).length + 1 ≤ nod x := hx
  by_cases h : kd x = c
  ·rw [decide_eq_true h, cond_true, if_pos h, gd_true (small_of (by omega))]
   rw [flat_l3 kf c ks hl Ke m k (i + 1) _ (by omega) (by omega) (by rw [List.length_append]; omega), List.append_assoc]
  ·rw [decide_eq_false h, cond_false, if_neg h, gd_true (small_of (by simp; omega)), eta]
   rw [flat_l3 kf c ks hl Ke m k (i + 1) _ (by omega) (by omega) (by simp; omega), List.append_assoc]
theorem flat_ok {R : Type} (kf : Nat) (hkf : 3000 ≤ kf) (c : Int) (l : List Sd) (hl : nodL l ≤ 2000) (K : List Sd → Option R) : yy43 kf c l K = K (flatT c l) := by
 have := nodL_len l
 unfold yy43 yy43_b
 refine (flat_l3 kf c l (by omega) _ l.length kf 0 [] (by omega) (by omega) (by simp)).trans ?_
 rw [List.nil_append, List.drop_zero]
abbrev noneT : Sd := Rose.node (1, ZS, ()) []
abbrev emptyT : Sd := Rose.node (2, ZS, ()) []
def oneOf (k : Int) (alone : Sd) : List Sd → Sd
 | [] => alone
 | [x] => x
 | l => Rose.node (k, ZS, ()) l
def catT (l : List Sd) : Sd :=
 if (flatT 4 l).any (fun x => decide (kd x = 1)) = true then noneT else oneOf 4 emptyT ((flatT 4 l).filter fun x => !decide (kd x = 2))
theorem cat_l4 {R : Type} (kf : Nat) (n : Nat) (hkf : 3000 + n ≤ kf) (v4 : Int) (v5 : List Int) (ks : List Sd) (v8 : List Sd) (hl : ks.length ≤ 2000) (hf : ∀ x ∈ ks, Fit n x) (Kr : Int → List Int → List Sd → Option R) (Ke : Int → List Int → List Sd → List Sd → Option R) :
  ∀ (m k i : Nat) (acc : List Sd), i + m = ks.length → m < k → acc.length ≤ i →
  yy31_l4 kf k v4 v5 ks v8 (fun a b c _ => Kr a b c) Ke (i : Int) acc = if (ks.drop i).any (fun x => decide (kd x = 1)) = true then Kr 1 ZS [] else Ke v4 v5 (acc ++ (ks.drop i).filter fun x => !decide (kd x = 2)) v8
 | m, 0, i, acc, _, h, _ => by omega
 | 0, k + 1, i, acc, hi, _, _ => by
  unfold yy31_l4 yy31_l4_b
  rw [decide_eq_false (by omega), cond_false, List.drop_eq_nil_of_le (by omega)]; simp
 | m + 1, k + 1, i, acc, hi, hk, ha => by
  have g0 : decide (0 ≤ (i : Int)) = true := decide_eq_true (by omega)
  have g1 : decide ((i : Int) < (ks.length : Int)) = true := decide_eq_true (by omega)
  have hm := getD_mem ks i (by omega) DD
  have hfx := hf _ hm
  unfold yy31_l4 yy31_l4_b
  rw [getD_drop ks i (by omega) DD, List.any_cons, List.filter_cons]
  simp only [g0, g1, gdt, cond_true]
  rw [show Int.toNat (i : Int) = i from rfl, wi1s i (by omega)]
  generalize ks.getD i DD = x at *
  by_cases h : kd x = 1
  ·rw [decide_eq_true h, cond_true, Bool.true_or, if_pos rfl]
   unfold yy39 yy39_b; rfl
  rw [decide_eq_false h, cond_false, Bool.false_or]
  by_cases h2 : kd x = 2
  ·rw [decide_eq_true h2, Bool.not_true, cond_false, if_neg Bool.false_ne_true]
   exact cat_l4 kf n hkf v4 v5 ks v8 hl hf Kr Ke m k (i + 1) acc (by omega) (by omega) (by omega)
  ·rw [decide_eq_false h2, Bool.not_false, cond_true, if_pos (show true = true from rfl)]
   refine (copy_ok n x kf hfx.1 hkf hfx.2.1 _).trans ?_
   rw [gd_true (small_of (by simp; omega)), eta]
   rw [cat_l4 kf n hkf v4 v5 ks v8 hl hf Kr Ke m k (i + 1) _ (by omega) (by omega) (by simp; omega)]
   simp
theorem flat_fit {n : Nat} {c : Int} {l : List Sd} (h : ∀ x ∈ l, Fit n x) : ∀ x ∈ flatT c l, Fit n x := by
 intro x hx
 unfold flatT at hx
 obtain ⟨y, hy, hxy⟩ := List.mem_flatMap.1 hx
 have hf := h y hy
 split at hxy
 ·cases n with
  | zero => have := hf.1; have := dep_pos y; omega
  | succ n => exact (hf.kid hxy).mono (by omega)
 ·rw [List.mem_singleton.1 hxy]; exact hf
theorem oneOf_kk {R : Type} (k : Int) (alone : Sd) (l : List Sd) (K : Int → List Int → List Sd → Option R) :
  (bif decide ((l.length : Int) = 0) then K (kd alone) (stt alone) (kk alone) else bif decide ((l.length : Int) = 1) then gd (decide (0 < (l.length : Int))) (K ((Rose.lab (l.getD 0 DD)).1) ((Rose.lab (l.getD 0 DD)).2.1) (Rose.kids (l.getD 0 DD))) else K k ZS l) =
  K (kd (oneOf k alone l)) (stt (oneOf k alone l)) (kk (oneOf k alone l)) := by
 match l with
 | [] => rfl
 | [x] => rfl
 | x :: y :: r =>
  rw [decide_eq_false (by simp only [List.length_cons]; omega), cond_false, decide_eq_false (by simp only [List.length_cons]; omega), cond_false]; rfl
theorem cat_ok {R : Type} (kf n : Nat) (hkf : 3000 + n ≤ kf) (l : List Sd) (hl : nodL l ≤ 2000) (hf : ∀ x ∈ l, Fit n x) (K : Int → List Int → List Sd → Option R) : yy31 kf l K = K (kd (catT l)) (stt (catT l)) (kk (catT l)) := by
 have h1 := flatT_nod 4 l
 have h2 := nodL_len (flatT 4 l)
 unfold yy31 yy31_b
 rw [flat_ok kf (by omega) 4 l hl]
 refine (cat_l4 kf n hkf 0 ZS (flatT 4 l) [] (by omega) (flat_fit hf) (fun a b c => K a b c) _ (flatT 4 l).length kf 0 [] (by omega) (by omega) (by simp)).trans ?_
 unfold catT
 rw [List.drop_zero, List.nil_append]
 by_cases h : (flatT 4 l).any (fun x => decide (kd x = 1)) = true
 ·rw [if_pos h, if_pos h]; rfl
 ·rw [if_neg h, if_neg h]
  exact oneOf_kk 4 emptyT _ K
theorem insT_take {l : List Sd} {r : Sd} : ∀ (i : Nat), i ≤ l.length → (∀ j, j < i → cmpT (l.getD j DD) r < 0) → insT l r = l.take i ++ insT (l.drop i) r
 | 0, _, _ => by simp
 | i + 1, hi, h => by
  rw [insT_take i (by omega) fun j hj => h j (by omega), getD_drop l i (by omega) DD]
  conv => lhs; rw [show insT (l.getD i DD :: l.drop (i + 1)) r = l.getD i DD :: insT (l.drop (i + 1)) r by
   conv => lhs; unfold insT
   rw [if_pos (h i (by omega))]]
  rw [take_snoc l i (by omega) DD, List.append_assoc]; rfl
theorem ins_l2 {R : Type} (kf n : Nat) (hkf : 3000 + n ≤ kf) (l : List Sd) (r : Sd) (hl : l.length ≤ 2000) (hf : ∀ x ∈ l, Fit n x) (hr : setsOk r) (Ke : List Sd → Int → Int → List Int → List Sd → Option R) (T : Option R)
  (hT : ∀ i : Nat, i ≤ l.length → (∀ j, j < i → cmpT (l.getD j DD) r < 0) → (i < l.length → ¬ cmpT (l.getD i DD) r < 0) → Ke l (i : Int) (kd r) (stt r) (kk r) = T) :
  ∀ (m k i : Nat), i + m = l.length → m < k → (∀ j, j < i → cmpT (l.getD j DD) r < 0) → yy44_l2 kf k l (kd r) (stt r) (kk r) Ke (i : Int) = T
 | m, 0, i, _, h, _ => by omega
 | 0, k + 1, i, hi, _, hj => by
  unfold yy44_l2 yy44_l2_b
  rw [decide_eq_false (by omega), cond_false]
  exact hT i (by omega) hj fun h => by omega
 | m + 1, k + 1, i, hi, hk, hj => by
  have g0 : decide (0 ≤ (i : Int)) = true := decide_eq_true (by omega)
  have g1 : decide ((i : Int) < (l.length : Int)) = true := decide_eq_true (by omega)
  have hfx := hf _ (getD_mem l i (by omega) DD)
  unfold yy44_l2 yy44_l2_b
  simp only [g0, g1, gdt, cond_true]
  rw [show Int.toNat (i : Int) = i from rfl]
  refine (rcmp_ok n (l.getD i DD) r kf hfx.1 hkf hfx.2.1 hfx.2.2 hr _).trans ?_
  by_cases h : cmpT (l.getD i DD) r < 0
  ·rw [decide_eq_true h, cond_true, wi1s i (by omega)]
   exact ins_l2 kf n hkf l r hl hf hr Ke T hT m k (i + 1) (by omega) (by omega) fun j hj' => by
    by_cases hji : j = i
    ·subst hji; exact h
    ·exact hj j (by omega)
  ·rw [decide_eq_false h, cond_false]
   exact hT i (by omega) hj fun _ => h
theorem insert_ok {R : Type} (kf n : Nat) (hkf : 3000 + n ≤ kf) (l : List Sd) (r : Sd) (hl : l.length ≤ 2000) (hf : ∀ x ∈ l, Fit n x) (hr : setsOk r) (K : List Sd → Option R) : yy44 kf l (kd r) (stt r) (kk r) K = K (insT l r) := by
 unfold yy44 yy44_b
 refine ins_l2 kf n hkf l r hl hf hr _ _ (fun i hi hlt hge => ?_) l.length kf 0 (by omega) (by omega) fun j hj => by omega
 have g0 : decide (0 ≤ (i : Int)) = true := decide_eq_true (by omega)
 have g1 : decide ((i : Int) ≤ (l.length : Int)) = true := decide_eq_true (by omega)
 have hlt2 : (l.take i).length ≤ 2000 := by rw [List.length_take]; omega
 have hld : (l.drop i).length ≤ 2000 := by rw [List.length_drop]; omega
 have s1 : decide (([] : List Sd).length + (l.take i).length < SMALL) = true := small_of (by simp; omega)
 have s2 : decide ((([] : List Sd) ++ l.take i).length + [r].length < SMALL) = true := small_of (by simp; omega)
 have s3 : decide ((([] ++ l.take i) ++ [r]).length + (l.drop i).length < SMALL) = true := small_of (by simp only [List.length_append, List.length_nil, List.length_singleton]; omega)
 have tail : ∀ q : insT (l.drop i) r = r :: l.drop i, (gd (decide (0 ≤ (i : Int)))
    (gd (decide ((i : Int) ≤ (l.length : Int)))
    (gd (decide (([] : List Sd).length + (l.take (Int.toNat (i : Int))).length < SMALL))
     (gd (decide ((([] : List Sd) ++ (l.take (Int.toNat (i : Int)))).length + ([(Rose.node (kd r, stt r, ()) (kk r))] : List Sd).length < SMALL))
     (gd (decide (0 ≤ (i : Int)))
      (gd (decide ((i : Int) ≤ (l.length : Int)))
      (gd (decide (((([] : List Sd) ++ (l.take (Int.toNat (i : Int)))) ++ ([(Rose.node (kd r, stt r, ()) (kk r))] : List Sd)).length + (l.drop (Int.toNat (i : Int))).length < SMALL))
       (K (((([] : List Sd) ++ (l.take (Int.toNat (i : Int)))) ++ ([(Rose.node (kd r, stt r, ()) (kk r))] : List Sd)) ++ (l.drop (Int.toNat (i : Int))))))))))) ) = K (insT l r) := by
  intro q
  rw [show Int.toNat (i : Int) = i from rfl, eta]
  simp only [g0, g1, s1, s2, s3, gdt]
  rw [insT_take i hi hlt, q]
  simp
 by_cases hlen : i < l.length
 ·rw [decide_eq_true (by omega : (i : Int) < (l.length : Int)), cond_true, g0, gdt, gdt]
  have hfx := hf _ (getD_mem l i hlen DD)
  unfold yy36 yy36_b
  rw [show Int.toNat (i : Int) = i from rfl]
  refine (rcmp_ok n (l.getD i DD) r kf hfx.1 hkf hfx.2.1 hfx.2.2 hr _).trans ?_
  by_cases h0 : cmpT (l.getD i DD) r = 0
  ·rw [decide_eq_true h0]
   dsimp only
   rw [cond_true, insT_take i hi hlt, getD_drop l i hlen DD]
   conv => rhs; unfold insT
   rw [if_neg (hge hlen), if_pos h0, ← getD_drop l i hlen DD, List.take_append_drop]
  ·rw [decide_eq_false h0]
   dsimp only
   rw [cond_false]
   refine tail ?_
   rw [getD_drop l i hlen DD]
   conv => lhs; unfold insT
   rw [if_neg (hge hlen), if_neg h0]
 ·rw [decide_eq_false (by omega : ¬ (i : Int) < (l.length : Int)), cond_false]
  dsimp only
  rw [cond_false]
  refine tail ?_
  rw [List.drop_eq_nil_of_le (by omega)]; rfl
end Go.Ab.T

/- Shown: alternatives, and who is the same. -/
namespace Go.Ab.T
open Go Go.Ab
set_option linter.unusedVariables false
set_option linter.unusedSimpArgs false
set_option maxRecDepth 20000
noncomputable def uniS (s t : List Int) : List Int := setOf fun b => mem s b || mem t b
theorem uniS_set (s t : List Int) : isSet (uniS s t) := setOf_isSet _
theorem ror_ok {R : Type} (kf : Nat) (hkf : 2000 ≤ kf) {s t : List Int} (hs : isSet s) (ht : isSet t) (K : List Int → Option R) : yy23 kf s t K = K (uniS s t) := by
 have := ror_s kf hkf (mem s) (mem t) K
 rw [setOf_mem hs, setOf_mem ht] at this
 exact this
theorem ZS_set : isSet ZS := zero_isSet
theorem uniS_zero {s : List Int} (hs : isSet s) : uniS ZS s = s := by
 unfold uniS
 rw [setOf_congr (q := mem s) fun b hb => by rw [show mem ZS b = false from mem_zero b, Bool.false_or], setOf_mem hs]
noncomputable def altR : List Sd → List Sd → List Int → List Sd × List Int
 | [], out, s => (out, s)
 | x :: r, out, s => if kd x = 1 then altR r out s else if kd x = 3 then altR r out (uniS s (stt x)) else altR r (insT out x) s
open Classical in
noncomputable def altT (l : List Sd) : Sd :=
 oneOf 5 noneT (if (altR (flatT 5 l) [] ZS).2 = ZS then (altR (flatT 5 l) [] ZS).1 else insT (altR (flatT 5 l) [] ZS).1 (Rose.node (3, (altR (flatT 5 l) [] ZS).2, ()) []))
theorem insT_len (l : List Sd) (r : Sd) : (insT l r).length ≤ l.length + 1 := by
 induction l with
 | nil => simp [insT]
 | cons x l ih =>
  unfold insT
  split
  ·simp only [List.length_cons]; omega
  ·split <;> simp
theorem insT_fit {n : Nat} {l : List Sd} {r : Sd} (h : ∀ x ∈ l, Fit n x) (hr : Fit n r) : ∀ x ∈ insT l r, Fit n x := fun x hx => by
 rcases insT_mem hx with rfl | hx
 ·exact hr
 ·exact h x hx
theorem altR_inv {n : Nat} : ∀ (l out : List Sd) (s : List Int), (∀ x ∈ l, Fit n x) → (∀ x ∈ out, Fit n x) → isSet s → (∀ x ∈ (altR l out s).1, Fit n x) ∧ isSet (altR l out s).2 ∧ (altR l out s).1.length ≤ out.length + l.length
 | [], out, s, _, h2, h3 => ⟨h2, h3, by simp [altR]⟩
 | x :: r, out, s, h1, h2, h3 => by
  unfold altR
  have hr := fun y hy => h1 y (List.mem_cons_of_mem x hy)
  split
  ·obtain ⟨a, b, c⟩ := altR_inv r out s hr h2 h3
   exact ⟨a, b, by simp only [List.length_cons]; omega⟩
  split
  ·obtain ⟨a, b, c⟩ := altR_inv r out (uniS s (stt x)) hr h2 (uniS_set _ _)
   exact ⟨a, b, by simp only [List.length_cons]; omega⟩
  ·obtain ⟨a, b, c⟩ := altR_inv r (insT out x) s hr (insT_fit h2 (h1 x (by simp))) h3
   have := insT_len out x
   exact ⟨a, b, by simp only [List.length_cons]; omega⟩
theorem alt_l5 {R : Type} (kf n : Nat) (hkf : 3000 + n ≤ kf) (v5 : Int) (v6 : List Int) (ks v9 : List Sd) (hl : ks.length ≤ 1000) (hf : ∀ x ∈ ks, Fit n x) (Ke : List Sd → Int → List Int → List Int → List Sd → Option R) :
  ∀ (m k i : Nat) (out : List Sd) (s : List Int), i + m = ks.length → m < k → (∀ x ∈ out, Fit n x) → out.length ≤ i → isSet s →
  yy29_l5 kf k v5 v6 ks v9 Ke out (i : Int) s = Ke (altR (ks.drop i) out s).1 v5 v6 (altR (ks.drop i) out s).2 v9
 | m, 0, i, out, s, _, h, _, _, _ => by omega
 | 0, k + 1, i, out, s, hi, _, _, _, _ => by
  unfold yy29_l5 yy29_l5_b
  rw [decide_eq_false (by omega), cond_false, List.drop_eq_nil_of_le (by omega)]; rfl
 | m + 1, k + 1, i, out, s, hi, hk, ho, hol, hs => by
  have g0 : decide (0 ≤ (i : Int)) = true := decide_eq_true (by omega)
  have g1 : decide ((i : Int) < (ks.length : Int)) = true := decide_eq_true (by omega)
  have hfx := hf _ (getD_mem ks i (by omega) DD)
  unfold yy29_l5 yy29_l5_b
  rw [getD_drop ks i (by omega) DD]
  simp only [g0, g1, gdt, cond_true]
  rw [show Int.toNat (i : Int) = i from rfl, wi1s i (by omega)]
  generalize ks.getD i DD = x at *
  unfold altR
  by_cases h1 : kd x = 1
  ·rw [decide_eq_true h1, cond_true, if_pos h1]
   exact alt_l5 kf n hkf v5 v6 ks v9 hl hf Ke m k (i + 1) out s (by omega) (by omega) ho (by omega) hs
  rw [decide_eq_false h1, cond_false, if_neg h1]
  by_cases h3 : kd x = 3
  ·rw [decide_eq_true h3, cond_true, if_pos h3]
   refine (ror_ok kf (by omega) hs (setsOk_iff.1 hfx.2.2).1 _).trans ?_
   exact alt_l5 kf n hkf v5 v6 ks v9 hl hf Ke m k (i + 1) out _ (by omega) (by omega) ho (by omega) (uniS_set _ _)
  ·rw [decide_eq_false h3, cond_false, if_neg h3]
   refine (copy_ok n x kf hfx.1 hkf hfx.2.1 _).trans ?_
   refine (insert_ok kf n hkf out x (by omega) ho hfx.2.2 _).trans ?_
   have := insT_len out x
   exact alt_l5 kf n hkf v5 v6 ks v9 hl hf Ke m k (i + 1) _ s (by omega) (by omega) (insT_fit ho hfx) (by omega) hs
theorem bytes_ok {R : Type} (s : List Int) (K : Int → List Int → List Sd → Option R) : yy30 s K = if s = ZS then K 1 ZS [] else K 3 s [] := by
 unfold yy30 yy30_b
 by_cases h : s = ZS
 ·rw [decide_eq_true h, cond_true, if_pos h]; rfl
 ·rw [decide_eq_false h, cond_false, if_neg h]
theorem alt_ok {R : Type} (kf n : Nat) (hkf : 3000 + n ≤ kf) (l : List Sd) (hl : nodL l ≤ 1000) (hf : ∀ x ∈ l, Fit n x) (K : Int → List Int → List Sd → Option R) : yy29 kf l K = K (kd (altT l)) (stt (altT l)) (kk (altT l)) := by
 have h1 := flatT_nod 5 l
 have h2 := nodL_len (flatT 5 l)
 unfold yy29 yy29_b
 rw [flat_ok kf (by omega) 5 l (by omega)]
 refine (alt_l5 kf n hkf 0 ZS (flatT 5 l) [] (by omega) (flat_fit hf) _ (flatT 5 l).length kf 0 [] ZS (by omega) (by omega) (fun x hx => by cases hx) (by simp) ZS_set).trans ?_
 rw [List.drop_zero]
 obtain ⟨a, b, c⟩ := altR_inv (n := n) (flatT 5 l) [] ZS (flat_fit hf) (fun x hx => by cases hx) ZS_set
 unfold altT
 generalize altR (flatT 5 l) [] ZS = p at *
 obtain ⟨out, s⟩ := p
 dsimp only at a b c ⊢
 by_cases hz : s = ZS
 ·rw [decide_eq_true hz, Bool.not_true, cond_false, if_pos hz]
  exact oneOf_kk 5 noneT out K
 ·rw [decide_eq_false hz, Bool.not_false, cond_true, if_neg hz, bytes_ok, if_neg hz]
  have hok : setsOk (Rose.node (3, s, ()) [] : Sd) := ⟨b, trivial⟩
  refine (insert_ok kf n hkf out (Rose.node (3, s, ()) []) (by simp at c; omega) a hok _).trans ?_
  exact oneOf_kk 5 noneT _ K
mutual
def sameT : Sd → Sd → Bool
 | .node l ks, .node m js => decide (l.1 = m.1) && decide (l.2.1 = m.2.1) && sameL ks js
def sameL : List Sd → List Sd → Bool
 | [], [] => true
 | x :: r, y :: q => sameT x y && sameL r q
 | _, _ => false
end
theorem sameT_eq (t u : Sd) : sameT t u = (decide (kd t = kd u) && decide (stt t = stt u) && sameL (kk t) (kk u)) := by
 obtain ⟨l, ks⟩ := t; obtain ⟨m, js⟩ := u; rfl
theorem sameL_len : ∀ {l m : List Sd}, sameL l m = true → l.length = m.length
 | [], [], _ => rfl
 | [], _ :: _, h => by cases h
 | _ :: _, [], h => by cases h
 | x :: r, y :: q, h => by
  simp only [sameL, Bool.and_eq_true] at h
  simp [sameL_len h.2]
theorem sameT_iff : ∀ (n : Nat) (t u : Sd), dep t ≤ n → (sameT t u = true ↔ t = u)
 | 0, t, u, h => by have := dep_pos t; omega
 | n + 1, t, u, h => by
  have key : ∀ l m : List Sd, (∀ x ∈ l, dep x ≤ n) → (sameL l m = true ↔ l = m) := by
   intro l
   induction l with
   | nil => intro m _; cases m <;> simp [sameL]
   | cons x r ih =>
    intro m hx
    cases m with
    | nil => simp [sameL]
    | cons y q => simp [sameL, sameT_iff n x y (hx x (by simp)), ih q fun z hz => hx z (by simp [hz])]
  rw [sameT_eq]
  obtain ⟨⟨k, s, ⟨⟩⟩, ks⟩ := t
  obtain ⟨⟨k', s', ⟨⟩⟩, js⟩ := u
  have hd : depL ks + 1 ≤ n + 1 := h
  have := key ks js fun x hx => by have := depL_mem hx; omega
  simp only [Bool.and_eq_true, decide_eq_true_eq]
  show (k = k' ∧ s = s') ∧ sameL ks js = true ↔ _
  rw [this]
  constructor
  ·rintro ⟨⟨rfl, rfl⟩, rfl⟩; rfl
  ·intro h; injection h with h1 h2; injection h1 with h1 h3; injection h3 with h3 _; exact ⟨⟨h1, h3⟩, h2⟩
theorem same_l4 {R : Type} (c : Int → List Int → List Sd → Int → List Int → List Sd → (Bool → Option R) → Option R) (kf : Nat) (ks js : List Sd) (hl : ks.length ≤ 100000) (hlen : ks.length = js.length)
  (hc : ∀ x ∈ ks, ∀ y ∈ js, ∀ K : Bool → Option R, c (kd x) (stt x) (kk x) (kd y) (stt y) (kk y) K = K (sameT x y)) (K : Bool → Option R) :
  ∀ (m k i : Nat), i + m = ks.length → m < k → yy41_l4 c kf k ks js (fun v => K v) (K true) (i : Int) = K (sameL (ks.drop i) (js.drop i))
 | m, 0, i, _, h => by omega
 | 0, k + 1, i, hi, _ => by
  unfold yy41_l4 yy41_l4_b
  rw [decide_eq_false (by omega), cond_false, List.drop_eq_nil_of_le (by omega), List.drop_eq_nil_of_le (by omega)]; rfl
 | m + 1, k + 1, i, hi, hk => by
  have g0 : decide (0 ≤ (i : Int)) = true := decide_eq_true (by omega)
  have g1 : decide ((i : Int) < (ks.length : Int)) = true := decide_eq_true (by omega)
  have g2 : decide ((i : Int) < (js.length : Int)) = true := decide_eq_true (by omega)
  unfold yy41_l4 yy41_l4_b
  rw [getD_drop ks i (by omega) DD, getD_drop js i (by omega) DD]
  simp only [g0, g1, g2, gdt, cond_true]
  rw [show Int.toNat (i : Int) = i from rfl]
  refine (hc _ (getD_mem ks i (by omega) DD) _ (getD_mem js i (by omega) DD) _).trans ?_
  rw [show sameL (ks.getD i DD :: ks.drop (i + 1)) (js.getD i DD :: js.drop (i + 1)) = (sameT (ks.getD i DD) (js.getD i DD) && sameL (ks.drop (i + 1)) (js.drop (i + 1))) from rfl]
  cases sameT (ks.getD i DD) (js.getD i DD) with
  | false => rfl
  | true =>
   rw [Bool.not_true, cond_false, Bool.true_and, wi1s i (by omega)]
   exact same_l4 c kf ks js hl hlen hc K m k (i + 1) (by omega) (by omega)
end Go.Ab.T

/- Shown: who is plain, for the program and for the reference. -/
namespace Go.Ab.T
open Go Go.Ab
set_option linter.unusedVariables false
set_option linter.unusedSimpArgs false
set_option maxRecDepth 20000
def badL (ks : List Sd) (l : List Int) : Bool := ks.any fun x => decide (kd x ∈ l)
def setsN (ks : List Sd) : Nat := ks.countP fun x => decide (kd x = 3)
noncomputable def formB (k : Int) (s : List Int) (ks : List Sd) : Bool :=
 if k = 1 ∨ k = 2 then decide (s = ZS) && decide (ks.length = 0)
 else if k = 3 then !decide (s = ZS) && decide (ks.length = 0)
 else if k = 4 then decide (s = ZS) && (decide (1 < ks.length) && !badL ks [4, 1, 2])
 else if k = 5 then decide (s = ZS) && (decide (1 < ks.length) && (!badL ks [5, 1] && (riseL ks && decide (setsN ks ≤ 1))))
 else if k = 6 then decide (s = ZS) && (decide (ks.length = 1) && !badL ks [6, 1, 2])
 else false
mutual
noncomputable def plT : Sd → Bool
 | .node l ks => formB l.1 l.2.1 ks && plL ks
noncomputable def plL : List Sd → Bool
 | [] => true
 | x :: r => plT x && plL r
end
theorem plT_eq (t : Sd) : plT t = (formB (kd t) (stt t) (kk t) && plL (kk t)) := by obtain ⟨l, ks⟩ := t; rfl
theorem plL_iff : ∀ {l : List Sd}, plL l = true ↔ ∀ x ∈ l, plT x = true
 | [] => by simp [plL]
 | x :: r => by simp [plL, plL_iff (l := r)]
end Go.Ab.T

/- Shown: the reference's plain is the program's. -/
namespace Go.Ab.T
open Go Go.Ab
set_option linter.unusedVariables false
set_option linter.unusedSimpArgs false
set_option maxRecDepth 20000
theorem badL_iff {ks : List Sd} {l : List Int} : badL ks l = false ↔ ∀ x ∈ ks, kd x ∉ l := by
 unfold badL
 rw [List.any_eq_false]
 simp
theorem pl_kids {t : Sd} (h : plT t = true) : ∀ x ∈ kk t, plT x = true := by
 rw [plT_eq, Bool.and_eq_true] at h
 exact plL_iff.1 h.2
theorem pl_form {t : Sd} (h : plT t = true) : formB (kd t) (stt t) (kk t) = true := by
 rw [plT_eq, Bool.and_eq_true] at h
 exact h.1
theorem form4 {s : List Int} {ks : List Sd} : formB 4 s ks = true ↔ s = ZS ∧ 1 < ks.length ∧ badL ks [4, 1, 2] = false := by
 unfold formB
 simp only [Int.reduceEq, or_self, if_false, if_true, Bool.and_eq_true, decide_eq_true_eq, Bool.not_eq_true']
theorem form5 {s : List Int} {ks : List Sd} : formB 5 s ks = true ↔ s = ZS ∧ 1 < ks.length ∧ badL ks [5, 1] = false ∧ riseL ks = true ∧ setsN ks ≤ 1 := by
 unfold formB
 simp only [Int.reduceEq, or_self, if_false, if_true, Bool.and_eq_true, decide_eq_true_eq, Bool.not_eq_true']
theorem form3 {s : List Int} {ks : List Sd} : formB 3 s ks = true ↔ s ≠ ZS ∧ ks.length = 0 := by
 unfold formB
 simp only [Int.reduceEq, or_self, if_false, if_true, Bool.and_eq_true, decide_eq_true_eq, Bool.not_eq_true', decide_eq_false_iff_not, ne_eq]
theorem form1 {s : List Int} {ks : List Sd} : formB 1 s ks = true ↔ s = ZS ∧ ks.length = 0 := by
 unfold formB
 simp only [true_or, if_true, Bool.and_eq_true, decide_eq_true_eq]
theorem form2 {s : List Int} {ks : List Sd} : formB 2 s ks = true ↔ s = ZS ∧ ks.length = 0 := by
 unfold formB
 simp only [or_true, if_true, Bool.and_eq_true, decide_eq_true_eq]
theorem form6 {s : List Int} {ks : List Sd} : formB 6 s ks = true ↔ s = ZS ∧ ks.length = 1 ∧ badL ks [6, 1, 2] = false := by
 unfold formB
 simp only [Int.reduceEq, or_self, if_false, if_true, Bool.and_eq_true, decide_eq_true_eq, Bool.not_eq_true']
theorem pl_cat {t : Sd} (h : plT t = true) (hk : kd t = 4) : ∀ x ∈ kk t, kd x ≠ 4 ∧ kd x ≠ 1 ∧ kd x ≠ 2 := by
 have := pl_form h
 rw [hk] at this
 have := badL_iff.1 (form4.1 this).2.2
 intro x hx
 have := this x hx
 simp at this; omega
theorem pl_alt {t : Sd} (h : plT t = true) (hk : kd t = 5) : ∀ x ∈ kk t, kd x ≠ 5 ∧ kd x ≠ 1 := by
 have := pl_form h
 rw [hk] at this
 have := badL_iff.1 (form5.1 this).2.2.1
 intro x hx
 have := this x hx
 simp at this; omega
theorem flat_mem {c : Int} {l : List Sd} {x : Sd} (h : x ∈ flatT c l) : (x ∈ l ∧ kd x ≠ c) ∨ ∃ y ∈ l, kd y = c ∧ x ∈ kk y := by
 unfold flatT at h
 obtain ⟨y, hy, hxy⟩ := List.mem_flatMap.1 h
 split at hxy
 ·rename_i hk; exact Or.inr ⟨y, hy, hk, hxy⟩
 ·rename_i hk
  rw [List.mem_singleton.1 hxy]; exact Or.inl ⟨hy, hk⟩
theorem flat_id {c : Int} : ∀ {l : List Sd}, (∀ x ∈ l, kd x ≠ c) → flatT c l = l
 | [], _ => rfl
 | x :: l, h => by rw [flatT_cons, if_neg (h x (by simp)), flat_id fun y hy => h y (by simp [hy])]; rfl
theorem flat4_kd {l : List Sd} (h : ∀ x ∈ l, plT x = true) : ∀ x ∈ flatT 4 l, kd x ≠ 4 := by
 intro x hx
 rcases flat_mem hx with ⟨_, q⟩ | ⟨y, hy, hk, hxy⟩
 ·exact q
 ·exact (pl_cat (h y hy) hk x hxy).1
theorem flat5_kd {l : List Sd} (h : ∀ x ∈ l, plT x = true) : ∀ x ∈ flatT 5 l, kd x ≠ 5 := by
 intro x hx
 rcases flat_mem hx with ⟨_, q⟩ | ⟨y, hy, hk, hxy⟩
 ·exact q
 ·exact (pl_alt (h y hy) hk x hxy).1
theorem flat_pl {c : Int} {l : List Sd} (h : ∀ x ∈ l, plT x = true) : ∀ x ∈ flatT c l, plT x = true := by
 intro x hx
 rcases flat_mem hx with ⟨q, _⟩ | ⟨y, hy, hk, hxy⟩
 ·exact h x q
 ·exact pl_kids (h y hy) x hxy
theorem oneOf_long {k : Int} {a : Sd} {l : List Sd} (h : 1 < l.length) : oneOf k a l = Rose.node (k, ZS, ()) l := by
 match l, h with
 | x :: y :: r, _ => rfl
theorem node_inj {k k' : Int} {s s' : List Int} {l l' : List Sd} (h : (Rose.node (k, s, ()) l : Sd) = Rose.node (k', s', ()) l') : k = k' ∧ s = s' ∧ l = l' := by
 injection h with h1 h2
 injection h1 with h1 h3
 injection h3 with h3 _
 exact ⟨h1, h3, h2⟩
theorem oneOf_eq {k : Int} {a : Sd} {l ks : List Sd} (h : oneOf k a l = Rose.node (k, ZS, ()) ks) (ha : kd a ≠ k) (hl : ∀ x ∈ l, kd x ≠ k) : l = ks := by
 match l with
 | [] => exact absurd (by have h : a = Rose.node (k, ZS, ()) ks := h; rw [h]; rfl) ha
 | [x] => exact absurd (by have h : x = Rose.node (k, ZS, ()) ks := h; rw [h]; rfl) (hl x (by simp))
 | x :: y :: r => exact (node_inj h).2.2
theorem cat_plain {ks : List Sd} (h : ∀ x ∈ ks, plT x = true) (hl : 1 < ks.length) : catT ks = Rose.node (4, ZS, ()) ks ↔ badL ks [4, 1, 2] = false := by
 rw [badL_iff]
 constructor
 ·intro he
  unfold catT at he
  by_cases hn : (flatT 4 ks).any (fun x => decide (kd x = 1)) = true
  ·rw [if_pos hn] at he
   have := (node_inj he).1
   omega
  ·rw [if_neg hn] at he
   have hf : (flatT 4 ks).filter (fun x => !decide (kd x = 2)) = ks := oneOf_eq he (by decide) fun x hx => flat4_kd h x (List.mem_filter.1 hx).1
   intro x hx
   rw [← hf] at hx
   obtain ⟨hx1, hx2⟩ := List.mem_filter.1 hx
   have a1 := flat4_kd h x hx1
   have a2 : kd x ≠ 1 := fun q => hn (List.any_eq_true.2 ⟨x, hx1, decide_eq_true q⟩)
   have a3 : kd x ≠ 2 := by simpa using hx2
   simp; omega
 ·intro hk
  have hk' : ∀ x ∈ ks, kd x ≠ 4 ∧ kd x ≠ 1 ∧ kd x ≠ 2 := fun x hx => by have := hk x hx; simp at this; omega
  unfold catT
  rw [flat_id fun x hx => (hk' x hx).1, if_neg, List.filter_eq_self.2, oneOf_long hl]
  ·intro x hx; simp [(hk' x hx).2.2]
  ·rw [List.any_eq_true]
   rintro ⟨x, hx, q⟩
   exact (hk' x hx).2.1 (of_decide_eq_true q)
theorem rise_pw : ∀ {l : List Sd}, (∀ x ∈ l, setsOk x) → riseL l = true → l.Pairwise fun x y => cmpT x y = -1
 | [], _, _ => List.Pairwise.nil
 | x :: l, h, hr => List.Pairwise.cons (rise_all h hr) (rise_pw (fun y hy => h y (by simp [hy])) (rise_tail hr))
theorem altR_out {n : Nat} : ∀ (l out : List Sd) (s : List Int), (∀ x ∈ l, Fit n x ∧ kd x ≠ 5) → (∀ x ∈ out, Fit n x ∧ kd x ≠ 5 ∧ kd x ≠ 1 ∧ kd x ≠ 3) → riseL out = true →
  (∀ x ∈ (altR l out s).1, kd x ≠ 5 ∧ kd x ≠ 1 ∧ kd x ≠ 3) ∧ riseL (altR l out s).1 = true
 | [], out, s, _, h2, h3 => ⟨fun x hx => (h2 x hx).2, h3⟩
 | x :: r, out, s, h1, h2, h3 => by
  unfold altR
  have hr := fun y hy => h1 y (List.mem_cons_of_mem x hy)
  have hx := h1 x (by simp)
  by_cases q1 : kd x = 1
  ·rw [if_pos q1]; exact altR_out r out s hr h2 h3
  rw [if_neg q1]
  by_cases q3 : kd x = 3
  ·rw [if_pos q3]; exact altR_out r out _ hr h2 h3
  rw [if_neg q3]
  refine altR_out r (insT out x) s hr (fun y hy => ?_) (insT_rise (fun y hy => (h2 y hy).1.2.2) hx.1.2.2 h3)
  rcases insT_mem hy with rfl | hy
  ·exact ⟨hx.1, hx.2, q1, q3⟩
  ·exact h2 y hy
theorem setsN_ins (l : List Sd) (r : Sd) : setsN (insT l r) ≤ setsN l + 1 := by
 induction l with
 | nil =>
  unfold insT setsN
  rw [List.countP_cons, List.countP_nil]
  split <;> omega
 | cons x l ih =>
  unfold insT
  split
  ·unfold setsN at ih ⊢
   rw [List.countP_cons, List.countP_cons]
   omega
  ·split
   ·omega
   ·unfold setsN
    rw [List.countP_cons]
    split <;> omega
theorem setsN_zero {l : List Sd} (h : ∀ x ∈ l, kd x ≠ 3) : setsN l = 0 := by
 unfold setsN
 rw [List.countP_eq_zero]
 intro x hx
 simp [h x hx]
noncomputable def sumS (l : List Sd) (s : List Int) : List Int := (l.filter fun x => decide (kd x = 3)).foldl (fun s x => uniS s (stt x)) s
theorem altR_eq : ∀ (l out : List Sd) (s : List Int), (∀ x ∈ l, kd x ≠ 1) → l.Pairwise (fun x y => cmpT x y = -1) → (∀ y ∈ out, ∀ x ∈ l, cmpT y x = -1) →
  altR l out s = (out ++ l.filter (fun x => !decide (kd x = 3)), sumS l s)
 | [], out, s, _, _, _ => by simp [altR, sumS]
 | x :: r, out, s, h1, h2, h3 => by
  unfold altR
  rw [if_neg (h1 x (by simp))]
  obtain ⟨p1, p2⟩ := List.pairwise_cons.1 h2
  have hr := fun y hy => h1 y (List.mem_cons_of_mem x hy)
  by_cases q3 : kd x = 3
  ·rw [if_pos q3, altR_eq r out _ hr p2 fun y hy z hz => h3 y hy z (by simp [hz])]
   unfold sumS
   rw [List.filter_cons, List.filter_cons, decide_eq_true q3]
   simp
  ·rw [if_neg q3]
   have hins : insT out x = out ++ [x] := by
    have := insT_end (l := out) (m := []) (r := x) (fun y hy => h3 y hy x (by simp)) (fun y hy => by cases hy)
    rwa [List.append_nil] at this
   rw [hins, altR_eq r (out ++ [x]) s hr p2 fun y hy z hz => by
    rcases List.mem_append.1 hy with hy | hy
    ·exact h3 y hy z (by simp [hz])
    ·rw [List.mem_singleton.1 hy]; exact p1 z hz]
   unfold sumS
   rw [List.filter_cons, List.filter_cons, decide_eq_false q3]
   simp
theorem one_set : ∀ {l : List Sd}, setsN l ≤ 1 → (∀ x ∈ l, kd x ≠ 3) ∨ ∃ a t b, l = a ++ t :: b ∧ kd t = 3 ∧ (∀ x ∈ a, kd x ≠ 3) ∧ ∀ x ∈ b, kd x ≠ 3
 | [], _ => Or.inl (fun x hx => by cases hx)
 | x :: l, h => by
  unfold setsN at h
  rw [List.countP_cons] at h
  by_cases h3 : kd x = 3
  ·rw [decide_eq_true h3, if_pos rfl] at h
   right
   refine ⟨[], x, l, rfl, h3, (fun y hy => by cases hy), fun y hy q => ?_⟩
   have := (List.countP_pos_iff (p := fun x : Sd => decide (kd x = 3))).2 ⟨y, hy, decide_eq_true q⟩
   omega
  ·rw [decide_eq_false h3, if_neg Bool.false_ne_true] at h
   rcases one_set (l := l) (by unfold setsN; omega) with g | ⟨a, t, b, g1, g2, g3, g4⟩
   ·left
    intro y hy
    rcases List.mem_cons.1 hy with rfl | hy
    ·exact h3
    ·exact g y hy
   ·right
    refine ⟨x :: a, t, b, by rw [g1]; rfl, g2, fun y hy => ?_, g4⟩
    rcases List.mem_cons.1 hy with rfl | hy
    ·exact h3
    ·exact g3 y hy
theorem filter_no {l : List Sd} (h : ∀ x ∈ l, kd x ≠ 3) : l.filter (fun x => !decide (kd x = 3)) = l ∧ l.filter (fun x => decide (kd x = 3)) = [] := by
 refine ⟨List.filter_eq_self.2 fun x hx => by simp [h x hx], List.filter_eq_nil_iff.2 fun x hx => by simp [h x hx]⟩
theorem set_node {t : Sd} (h : plT t = true) (hk : kd t = 3) : t = Rose.node (3, stt t, ()) [] ∧ stt t ≠ ZS := by
 have := pl_form h
 rw [hk] at this
 obtain ⟨a, b⟩ := form3.1 this
 refine ⟨?_, a⟩
 have hkk : kk t = [] := List.length_eq_zero_iff.1 b
 conv => lhs; rw [← eta t, hk, hkk]
theorem alt_rise {n : Nat} {ks : List Sd} (h : ∀ x ∈ ks, plT x = true) (hf : ∀ x ∈ ks, Fit n x) (hk : ∀ x ∈ ks, kd x ≠ 5 ∧ kd x ≠ 1) (hr : riseL ks = true) (hs : setsN ks ≤ 1) : altT ks = oneOf 5 noneT ks := by
 have hpw := rise_pw (fun x hx => (hf x hx).2.2) hr
 unfold altT
 rw [flat_id fun x hx => (hk x hx).1, altR_eq ks [] ZS (fun x hx => (hk x hx).2) hpw (fun y hy => by cases hy)]
 dsimp only
 rw [List.nil_append]
 rcases one_set hs with g | ⟨a, t, b, g1, g2, g3, g4⟩
 ·obtain ⟨f1, f2⟩ := filter_no g
  unfold sumS
  rw [f1, f2, if_pos (show List.foldl (fun s x => uniS s (stt x)) ZS [] = ZS from rfl)]
 ·obtain ⟨f1, f2⟩ := filter_no g3
  obtain ⟨f3, f4⟩ := filter_no g4
  have ht : t ∈ ks := by rw [g1]; simp
  obtain ⟨t1, t2⟩ := set_node (h t ht) g2
  have htS := (setsOk_iff.1 (hf t ht).2.2).1
  have e1 : ks.filter (fun x => !decide (kd x = 3)) = a ++ b := by
   rw [g1, List.filter_append, List.filter_cons, decide_eq_true g2, f1, f3]; simp
  have e2 : sumS ks ZS = stt t := by
   unfold sumS
   rw [g1, List.filter_append, List.filter_cons, decide_eq_true g2, f2, f4]
   simp only [List.nil_append, if_true, List.foldl_cons, List.foldl_nil]
   exact uniS_zero htS
  rw [e1, e2, if_neg t2, ← t1]
  rw [g1] at hpw
  obtain ⟨p1, p2, p3⟩ := List.pairwise_append.1 hpw
  obtain ⟨p4, p5⟩ := List.pairwise_cons.1 p2
  rw [insT_end (fun y hy => p3 y hy t (by simp)) (fun y hy => ?_), ← g1]
  have hyk : y ∈ ks := by rw [g1]; simp [hy]
  rw [cmp_anti _ t y (Nat.le_refl _) (hf t ht).2.2 (hf y hyk).2.2, p4 y hy]; rfl
theorem alt_plain {n : Nat} {ks : List Sd} (h : ∀ x ∈ ks, plT x = true) (hf : ∀ x ∈ ks, Fit n x) (hl : 1 < ks.length) : altT ks = Rose.node (5, ZS, ()) ks ↔ badL ks [5, 1] = false ∧ riseL ks = true ∧ setsN ks ≤ 1 := by
 rw [badL_iff]
 constructor
 ·intro he
  obtain ⟨a1, a2⟩ := altR_out (n := n) (flatT 5 ks) [] ZS (fun x hx => ⟨flat_fit hf x hx, flat5_kd h x hx⟩) (fun x hx => by cases hx) rfl
  obtain ⟨b1, b2, _⟩ := altR_inv (n := n) (flatT 5 ks) [] ZS (flat_fit hf) (fun x hx => by cases hx) ZS_set
  unfold altT at he
  generalize altR (flatT 5 ks) [] ZS = p at *
  obtain ⟨out, s⟩ := p
  dsimp only at *
  by_cases hz : s = ZS
  ·rw [if_pos hz] at he
   have := oneOf_eq he (by decide) fun x hx => (a1 x hx).1
   subst this
   exact ⟨fun x hx => by have := a1 x hx; simp; omega, a2, by rw [setsN_zero fun x hx => (a1 x hx).2.2]; omega⟩
  ·rw [if_neg hz] at he
   have hk : ∀ x ∈ insT out (Rose.node (3, s, ()) []), kd x ≠ 5 ∧ kd x ≠ 1 := fun x hx => by
    rcases insT_mem hx with rfl | hx
    ·exact ⟨(by show (3 : Int) ≠ 5; decide), (by show (3 : Int) ≠ 1; decide)⟩
    ·exact ⟨(a1 x hx).1, (a1 x hx).2.1⟩
   have := oneOf_eq he (by decide) fun x hx => (hk x hx).1
   rw [← this]
   refine ⟨fun x hx => by have := hk x hx; simp; omega, insT_rise (fun y hy => (b1 y hy).2.2) ⟨b2, trivial⟩ a2, ?_⟩
   have := setsN_ins out (Rose.node (3, s, ()) [])
   rw [setsN_zero fun x hx => (a1 x hx).2.2] at this
   omega
 ·rintro ⟨h1, h2, h3⟩
  rw [alt_rise h hf (fun x hx => by have := h1 x hx; simp at this; omega) h2 h3, oneOf_long hl]
theorem rp_l2 {R : Type} (c : Int → List Int → List Sd → (Bool → Option R) → Option R) (kf : Nat) (v5 : Int) (v6 : List Int) (ks : List Sd) (hl : ks.length ≤ 100000)
  (hc : ∀ x ∈ ks, ∀ K : Bool → Option R, c (kd x) (stt x) (kk x) K = K (plT x)) (K : Bool → Option R) (Ke : Int → List Int → List Sd → Option R) : ∀ (m k i : Nat), i + m = ks.length → m < k →
  yy40_l2 c kf k v5 v6 ks (fun v9 _ _ _ => K v9) Ke (i : Int) = if plL (ks.drop i) = true then Ke v5 v6 ks else K false
 | m, 0, i, _, h => by omega
 | 0, k + 1, i, hi, _ => by
  unfold yy40_l2 yy40_l2_b
  rw [decide_eq_false (by omega), cond_false, List.drop_eq_nil_of_le (by omega)]; rfl
 | m + 1, k + 1, i, hi, hk => by
  have g0 : decide (0 ≤ (i : Int)) = true := decide_eq_true (by omega)
  have g1 : decide ((i : Int) < (ks.length : Int)) = true := decide_eq_true (by omega)
  unfold yy40_l2 yy40_l2_b
  rw [getD_drop ks i (by omega) DD]
  simp only [g0, g1, gdt, cond_true]
  rw [show Int.toNat (i : Int) = i from rfl]
  refine (hc _ (getD_mem ks i (by omega) DD) _).trans ?_
  rw [show plL (ks.getD i DD :: ks.drop (i + 1)) = (plT (ks.getD i DD) && plL (ks.drop (i + 1))) from rfl]
  cases plT (ks.getD i DD) with
  | false => rfl
  | true =>
   rw [Bool.not_true, cond_false, Bool.true_and, wi1s i (by omega)]
   exact rp_l2 c kf v5 v6 ks hl hc K Ke m k (i + 1) (by omega) (by omega)
end Go.Ab.T

/- Shown: the reference's plain; signs and sets. -/
namespace Go.Ab.T
open Go Go.Ab
set_option linter.unusedVariables false
set_option linter.unusedSimpArgs false
set_option maxRecDepth 20000
theorem rsm_ok2 {R : Type} : ∀ (n : Nat) (t u : Sd) (kf : Nat), dep u ≤ n → 3000 + n ≤ kf → nod u ≤ 2000 → ∀ K : Bool → Option R, yy41 kf (kd t) (stt t) (kk t) (kd u) (stt u) (kk u) K = K (sameT t u)
 | 0, t, u, kf, h, _, _, K => by have := dep_pos u; omega
 | n + 1, t, u, 0, _, h, _, K => by omega
 | n + 1, t, u, kf + 1, hd, hk, hn, K => by
  rw [sameT_eq]
  unfold yy41 yy41_b
  dsimp only
  by_cases h1 : kd t = kd u
  rotate_left
  ·rw [decide_eq_false h1, Bool.not_false, cond_true]; rfl
  rw [decide_eq_true h1, Bool.not_true, cond_false]
  by_cases h2 : stt t = stt u
  rotate_left
  ·rw [decide_eq_false h2, Bool.not_false, cond_true]; rfl
  rw [decide_eq_true h2, Bool.not_true, cond_false]
  by_cases h3 : (kk t).length = (kk u).length
  rotate_left
  ·rw [decide_eq_false (by omega), Bool.not_false, cond_true]
   have : sameL (kk t) (kk u) = false := by
    cases hq : sameL (kk t) (kk u) with
    | false => rfl
    | true => exact absurd (sameL_len hq) h3
   rw [this]; rfl
  rw [decide_eq_true (by omega), Bool.not_true, cond_false]
  have := kk_len u
  exact same_l4 (yy41 kf) kf (kk t) (kk u) (by omega) h3 (fun x hx y hy K => rsm_ok2 n x y kf (by have := dep_kid hy; omega) (by omega) (by have := nod_kid hy; omega) K) K (kk t).length kf 0 (by omega) (by omega)
theorem rplain_ok {R : Type} : ∀ (n : Nat) (t : Sd) (kf : Nat), Fit n t → nod t ≤ 1000 → 6000 + n ≤ kf → ∀ K : Bool → Option R, yy40 kf (kd t) (stt t) (kk t) K = K (plT t)
 | 0, t, kf, h, _, _, K => by have := dep_pos t; have := h.1; omega
 | n + 1, t, 0, _, _, h, K => by omega
 | n + 1, t, kf + 1, hf, hn, hk, K => by
  have hkl := kk_len t
  have hnk := nod_eq t
  have hkids := fun x hx => hf.kid (x := x) hx
  unfold yy40 yy40_b
  refine (rp_l2 (yy40 kf) kf (kd t) (stt t) (kk t) (by omega) (fun x hx K => rplain_ok n x kf (hkids x hx) (by have := nod_kid hx; omega) (by omega) K) K _ (kk t).length kf 0 (by omega) (by omega)).trans ?_
  rw [List.drop_zero, plT_eq]
  by_cases hpl : plL (kk t) = true
  rotate_left
  ·rw [if_neg hpl]
   have : plL (kk t) = false := by cases h : plL (kk t) with | true => exact absurd h hpl | false => rfl
   rw [this, Bool.and_false]
  rw [if_pos hpl, hpl, Bool.and_true]
  have hplk := plL_iff.1 hpl
  have hcat := fun K : Int → List Int → List Sd → Option R => cat_ok kf n (by omega) (kk t) (by omega) hkids K
  have halt := fun K : Int → List Int → List Sd → Option R => alt_ok kf n (by omega) (kk t) (by omega) hkids K
  have hsame := fun (u : Sd) (K : Bool → Option R) => rsm_ok2 (n + 1) u t kf hf.1 (by omega) (by omega) K
  unfold formB
  dsimp only
  have hz : ∀ s : List Int, decide (s = List.replicate 4 (0 : Int)) = decide (s = ZS) := fun _ => rfl
  have e0 : decide (((kk t).length : Int) = 0) = decide ((kk t).length = 0) := by
   by_cases h : (kk t).length = 0
   ·rw [decide_eq_true h, decide_eq_true (by omega)]
   ·rw [decide_eq_false h, decide_eq_false (by omega)]
  have e1 : decide ((1 : Int) < ((kk t).length : Int)) = decide (1 < (kk t).length) := by
   by_cases h : 1 < (kk t).length
   ·rw [decide_eq_true h, decide_eq_true (by omega)]
   ·rw [decide_eq_false h, decide_eq_false (by omega)]
  have e2 : decide (((kk t).length : Int) = 1) = decide ((kk t).length = 1) := by
   by_cases h : (kk t).length = 1
   ·rw [decide_eq_true h, decide_eq_true (by omega)]
   ·rw [decide_eq_false h, decide_eq_false (by omega)]
  rw [e0, e1, e2]
  by_cases h1 : kd t = 1
  ·rw [decide_eq_true h1, cond_true, cond_true, if_pos (Or.inl h1)]
   cases decide (stt t = ZS) <;> cases decide ((kk t).length = 0) <;> rfl
  rw [decide_eq_false h1, cond_false]
  by_cases h2 : kd t = 2
  ·rw [decide_eq_true h2, cond_true, if_pos (Or.inr h2)]
   cases decide (stt t = ZS) <;> cases decide ((kk t).length = 0) <;> rfl
  rw [decide_eq_false h2, cond_false, if_neg (fun q => q.elim h1 h2)]
  by_cases h3 : kd t = 3
  ·rw [decide_eq_true h3, cond_true, if_pos h3]
   cases decide (stt t = ZS) <;> cases decide ((kk t).length = 0) <;> rfl
  rw [decide_eq_false h3, cond_false, if_neg h3]
  by_cases h4 : kd t = 4
  ·rw [decide_eq_true h4, cond_true, if_pos h4]
   by_cases hs : stt t = ZS
   rotate_left
   ·rw [decide_eq_false hs]; rfl
   rw [decide_eq_true hs, cond_true, Bool.true_and]
   by_cases hl : 1 < (kk t).length
   rotate_left
   ·rw [decide_eq_false hl]; rfl
   rw [decide_eq_true hl, cond_true, Bool.true_and, hcat]
   refine (hsame (catT (kk t)) _).trans ?_
   have ht : t = Rose.node (4, ZS, ()) (kk t) := by conv => lhs; rw [← eta t, h4, hs]
   have hiff := cat_plain hplk hl
   have hsi := sameT_iff _ (catT (kk t)) t (Nat.le_refl _)
   congr 1
   cases hb : badL (kk t) [4, 1, 2] with
   | false => rw [Bool.not_false]; exact hsi.2 (by rw [hiff.2 hb]; exact ht.symm)
   | true =>
    rw [Bool.not_true]
    cases hq : sameT (catT (kk t)) t with
    | false => rfl
    | true =>
     have := hiff.1 (by rw [hsi.1 hq]; exact ht)
     rw [hb] at this; cases this
  rw [decide_eq_false h4, cond_false, if_neg h4]
  by_cases h5 : kd t = 5
  ·rw [decide_eq_true h5, cond_true, if_pos h5]
   by_cases hs : stt t = ZS
   rotate_left
   ·rw [decide_eq_false hs]; rfl
   rw [decide_eq_true hs, cond_true, Bool.true_and]
   by_cases hl : 1 < (kk t).length
   rotate_left
   ·rw [decide_eq_false hl]; rfl
   rw [decide_eq_true hl, cond_true, Bool.true_and, halt]
   refine (hsame (altT (kk t)) _).trans ?_
   have ht : t = Rose.node (5, ZS, ()) (kk t) := by conv => lhs; rw [← eta t, h5, hs]
   have hiff := alt_plain hplk hkids hl
   have hsi := sameT_iff _ (altT (kk t)) t (Nat.le_refl _)
   congr 1
   cases hq : sameT (altT (kk t)) t with
   | true =>
    obtain ⟨a1, a2, a3⟩ := hiff.1 (by rw [hsi.1 hq]; exact ht)
    rw [a1, a2, decide_eq_true a3]; rfl
   | false =>
    cases hb : badL (kk t) [5, 1] with
    | true => rfl
    | false =>
     cases hr : riseL (kk t) with
     | false => rfl
     | true =>
      by_cases hn : setsN (kk t) ≤ 1
      ·have := hsi.2 (by rw [hiff.2 ⟨hb, hr, hn⟩]; exact ht.symm)
       rw [hq] at this; cases this
      ·rw [decide_eq_false hn]; rfl
  rw [decide_eq_false h5, cond_false, if_neg h5]
  by_cases h6 : kd t = 6
  ·rw [decide_eq_true h6, cond_true, if_pos h6]
   by_cases hs : stt t = ZS
   rotate_left
   ·rw [decide_eq_false hs]; rfl
   rw [decide_eq_true hs, cond_true, Bool.true_and]
   by_cases hl : (kk t).length = 1
   rotate_left
   ·rw [decide_eq_false hl]; rfl
   rw [decide_eq_true hl, cond_true, Bool.true_and, decide_eq_true (show (0 : Int) < ((kk t).length : Int) by omega)]
   simp only [gdt]
   obtain ⟨x, hx⟩ : ∃ x, kk t = [x] := List.length_eq_one_iff.1 hl
   rw [hx]
   show (bif !decide (kd x = 6) then bif !decide (kd x = 2) then K (!decide (kd x = 1)) else K false else K false) = K (!(decide (kd x ∈ ([6, 1, 2] : List Int)) || false))
   rw [Bool.or_false]
   by_cases q6 : kd x = 6
   ·rw [q6]; rfl
   by_cases q2 : kd x = 2
   ·rw [q2]; rfl
   by_cases q1 : kd x = 1
   ·rw [q1]; rfl
   rw [decide_eq_false q6, decide_eq_false q2, decide_eq_false q1, decide_eq_false (show kd x ∉ ([6, 1, 2] : List Int) by simp; omega)]; rfl
  ·rw [decide_eq_false h6, cond_false, if_neg h6]
end Go.Ab.T

/- Shown: signs, and the texts of sets. -/
namespace Go.Ab.T
open Go Go.Ab
set_option linter.unusedVariables false
set_option linter.unusedSimpArgs false
set_option maxRecDepth 20000
abbrev ESC : List Int := [92, 124, 42, 43, 63, 40, 41, 91, 93, 94, 45, 46]
abbrev HEX : List Int := [48, 49, 50, 51, 52, 53, 54, 55, 56, 57, 97, 98, 99, 100, 101, 102]
def signT (c : Int) : List Int := if c ∈ ESC then [92, c] else if 32 ≤ c ∧ c ≤ 126 then [c] else [92, 120, HEX.getD (c / 16).toNat 0, HEX.getD (c % 16).toNat 0]
theorem rin_l2 {R : Type} (kf : Nat) (l : List Int) (c : Int) (hl : l.length ≤ 100) (K : Bool → Option R) : ∀ (m k i : Nat), i + m = l.length → m < k → yy46_l2 kf k l c (fun v => K v) (K false) (i : Int) = K (decide (c ∈ l.drop i))
 | m, 0, i, _, h => by omega
 | 0, k + 1, i, hi, _ => by
  unfold yy46_l2 yy46_l2_b
  rw [decide_eq_false (by omega), cond_false, List.drop_eq_nil_of_le (by omega)]; rfl
 | m + 1, k + 1, i, hi, hk => by
  have g0 : decide (0 ≤ (i : Int)) = true := decide_eq_true (by omega)
  have g1 : decide ((i : Int) < (l.length : Int)) = true := decide_eq_true (by omega)
  unfold yy46_l2 yy46_l2_b
  rw [getD_drop l i (by omega) 0]
  simp only [g0, g1, gdt, cond_true]
  rw [show Int.toNat (i : Int) = i from rfl]
  by_cases h : l.getD i 0 = c
  ·rw [decide_eq_true h, cond_true, decide_eq_true (show c ∈ l.getD i 0 :: l.drop (i + 1) by rw [h]; exact List.mem_cons_self)]
  ·rw [decide_eq_false h, cond_false, wi1s i (by omega), rin_l2 kf l c hl K m k (i + 1) (by omega) (by omega)]
   congr 1
   by_cases h2 : c ∈ l.drop (i + 1)
   ·rw [decide_eq_true h2, decide_eq_true (List.mem_cons_of_mem _ h2)]
   ·rw [decide_eq_false h2, decide_eq_false (fun q => by rcases List.mem_cons.1 q with q | q; exact h q.symm; exact h2 q)]
theorem rin_ok {R : Type} (kf : Nat) (hkf : 200 ≤ kf) (l : List Int) (c : Int) (hl : l.length ≤ 100) (K : Bool → Option R) : yy46 kf l c K = K (decide (c ∈ l)) := by
 unfold yy46 yy46_b
 exact rin_l2 kf l c hl K l.length kf 0 (by omega) (by omega)
theorem rsign_ok {R : Type} (kf : Nat) (hkf : 200 ≤ kf) (c : Int) (h : 0 ≤ c ∧ c ≤ 255) (K : List Int → Option R) : yy48 kf c K = K (signT c) := by
 unfold yy48 yy48_b signT
 rw [rin_ok kf hkf ESC c (by decide)]
 by_cases hm : c ∈ ESC
 ·rw [decide_eq_true hm, if_pos hm]; rfl
 rw [decide_eq_false hm, if_neg hm]
 dsimp only
 rw [cond_false]
 have e1 : IntKind.u8.wrap (Int.tdiv c 16) = c / 16 := by rw [Int.tdiv_eq_ediv_of_nonneg h.1, IntKind.wrap_u8]; omega
 have e2 : Int.tmod c 16 = c % 16 := Int.tmod_eq_emod_of_nonneg h.1
 rw [e1, e2]
 have tail : gd (decide (0 ≤ c / 16)) (gd (decide (c / 16 < 16)) (gd (decide (0 ≤ c % 16)) (gd (decide (c % 16 < 16)) (K [92, 120, HEX.getD (c / 16).toNat 0, HEX.getD (c % 16).toNat 0])))) = K [92, 120, HEX.getD (c / 16).toNat 0, HEX.getD (c % 16).toNat 0] := by
  rw [gd_true (decide_eq_true (by omega)), gd_true (decide_eq_true (by omega)), gd_true (decide_eq_true (by omega)), gd_true (decide_eq_true (by omega))]
 by_cases h1 : 32 ≤ c
 ·rw [decide_eq_true h1, cond_true]
  by_cases h2 : c ≤ 126
  ·rw [decide_eq_true h2, cond_true, if_pos ⟨h1, h2⟩]
  ·rw [decide_eq_false h2, cond_false, if_neg (by omega)]; exact tail
 ·rw [decide_eq_false h1, cond_false, cond_false, if_neg (by omega)]; exact tail
theorem signT_len (c : Int) : 1 ≤ (signT c).length ∧ (signT c).length ≤ 4 := by
 unfold signT
 split
 ·exact ⟨by simp, by simp⟩
 split
 ·exact ⟨by simp, by simp⟩
 ·exact ⟨by simp, by simp⟩
def endR (l : List Int) : Nat → Nat → Nat
 | 0, i => i
 | m + 1, i => if i + 1 < l.length ∧ l.getD (i + 1) 0 = IntKind.u8.wrap (l.getD i 0 + 1) then endR l m (i + 1) else i
theorem endR_ge (l : List Int) : ∀ (m i : Nat), i ≤ endR l m i ∧ (i < l.length → endR l m i < l.length)
 | 0, i => ⟨Nat.le_refl _, id⟩
 | m + 1, i => by
  unfold endR
  split
  ·rename_i h
   obtain ⟨a, b⟩ := endR_ge l m (i + 1)
   exact ⟨by omega, fun _ => b h.1⟩
  ·exact ⟨Nat.le_refl _, id⟩
def pieceT (l : List Int) (i k : Nat) : List Int := signT (l.getD i 0) ++ ((if i + 1 < k then [45] else []) ++ (if i < k then signT (l.getD k 0) else []))
def runsT (l : List Int) : Nat → Nat → List Int
 | 0, _ => []
 | m + 1, i => if i < l.length then pieceT l i (endR l l.length i) ++ runsT l m (endR l l.length i + 1) else []
theorem pieceT_len (l : List Int) (i k : Nat) : (pieceT l i k).length ≤ 9 := by
 unfold pieceT
 have h1 := signT_len (l.getD i 0)
 have h2 := signT_len (l.getD k 0)
 simp only [List.length_append]
 split <;> split <;> simp only [List.length_nil, List.length_singleton] <;> omega
theorem runsT_len (l : List Int) : ∀ (m i : Nat), (runsT l m i).length ≤ 9 * m
 | 0, i => by simp [runsT]
 | m + 1, i => by
  unfold runsT
  split
  ·rw [List.length_append]
   have := pieceT_len l i (endR l l.length i)
   have := runsT_len l m (endR l l.length i + 1)
   omega
  ·simp
noncomputable def setT (s : List Int) : List Int :=
 if (listOf (mem s)).length = 256 then [46] else if (listOf (mem s)).length = 1 then signT ((listOf (mem s)).getD 0 0) else 91 :: (runsT (listOf (mem s)) (listOf (mem s)).length 0 ++ [93])
theorem setT_len (s : List Int) : 1 ≤ (setT s).length ∧ (setT s).length ≤ 2400 := by
 have h0 := listOf_length (mem s)
 unfold setT
 split
 ·simp
 split
 ·have := signT_len ((listOf (mem s)).getD 0 0); omega
 ·have := runsT_len (listOf (mem s)) (listOf (mem s)).length 0
  simp only [List.length_cons, List.length_append, List.length_nil]; omega
def Wr (t : List Int) (o : Bool) (b : List Int) (o' : Bool) (b' : List Int) : Prop :=
 o' = (o || decide (4000 < b.length + t.length)) ∧ (o' = false → b' = b ++ t) ∧ b'.length ≤ b.length + t.length
theorem Wr.trans {t u : List Int} {o o1 o2 : Bool} {b b1 b2 : List Int} (h : Wr t o b o1 b1) (g : Wr u o1 b1 o2 b2) : Wr (t ++ u) o b o2 b2 := by
 obtain ⟨h1, h2, h3⟩ := h
 obtain ⟨g1, g2, g3⟩ := g
 refine ⟨?_, fun q => ?_, by rw [List.length_append]; omega⟩
 ·cases ho : o1 with
  | true =>
   rw [ho] at h1 g1
   rw [g1, Bool.true_or]
   cases o with
   | true => rfl
   | false =>
    rw [Bool.false_or] at h1 ⊢
    have := of_decide_eq_true h1.symm
    exact (decide_eq_true (by rw [List.length_append]; omega)).symm
  | false =>
   have hb := h2 ho
   rw [ho] at h1 g1
   have ho' : o = false := by cases o with | true => rw [Bool.true_or] at h1; cases h1 | false => rfl
   rw [g1, ho', Bool.false_or, Bool.false_or, hb, List.length_append, List.length_append, Nat.add_assoc]
 ·have ho : o1 = false := by cases ho : o1 with | true => rw [ho] at g1; rw [g1, Bool.true_or] at q; cases q | false => rfl
  rw [g2 q, h2 ho, List.append_assoc]
theorem Wr.nil (o : Bool) (b : List Int) (h : o = true ∨ b.length ≤ 4000) : Wr [] o b o b := by
 refine ⟨?_, fun _ => by rw [List.append_nil], by simp⟩
 rcases h with rfl | h
 ·rfl
 ·rw [decide_eq_false (by simp; omega), Bool.or_false]
theorem endR_more (l : List Int) : ∀ (m i k : Nat), l.length ≤ i + m → m ≤ k → endR l m i = endR l k i
 | 0, i, k, h, _ => by
  cases k with
  | zero => rfl
  | succ k => unfold endR; rw [if_neg (by omega)]
 | m + 1, i, 0, h, hk => by omega
 | m + 1, i, k + 1, h, hk => by
  unfold endR
  split
  ·exact endR_more l m (i + 1) k (by omega) (by omega)
  ·rfl
end Go.Ab.T

/- Shown: texts, the program's and the reference's. -/
namespace Go.Ab.T
open Go Go.Ab
set_option linter.unusedVariables false
set_option linter.unusedSimpArgs false
set_option maxRecDepth 20000
theorem rsl10 {R : Type} (kf : Nat) (l : List Int) (hl : l.length ≤ 256) (v7 : List Int) (i0 : Int) (Ke : List Int → Int → Int → List Int → Option R) : ∀ (m k i : Nat), i + m = l.length → m < k → i < l.length →
  yy47_l10 kf k v7 i0 l Ke (i : Int) = Ke v7 i0 ((endR l m i : Nat) : Int) l
 | m, 0, i, _, h, _ => by omega
 | 0, k + 1, i, hi, _, h => by omega
 | m + 1, k + 1, i, hi, hk, h => by
  unfold yy47_l10 yy47_l10_b endR
  rw [wi1s i (by omega)]
  by_cases h1 : i + 1 < l.length
  ·have g0 : decide (0 ≤ (i : Int)) = true := decide_eq_true (by omega)
   have g1 : decide ((i : Int) < (l.length : Int)) = true := decide_eq_true (by omega)
   have g2 : decide (((i + 1 : Nat) : Int) < (l.length : Int)) = true := decide_eq_true (by omega)
   have g3 : decide (0 ≤ ((i + 1 : Nat) : Int)) = true := decide_eq_true (by omega)
   simp only [g0, g1, g2, g3, gdt, cond_true]
   rw [show Int.toNat ((i + 1 : Nat) : Int) = i + 1 from rfl, show Int.toNat (i : Int) = i from rfl]
   by_cases h2 : l.getD (i + 1) 0 = IntKind.u8.wrap (l.getD i 0 + 1)
   ·rw [decide_eq_true h2, cond_true, if_pos ⟨h1, h2⟩]
    exact rsl10 kf l hl v7 i0 Ke m k (i + 1) (by omega) (by omega) h1
   ·rw [decide_eq_false h2, cond_false, if_neg fun q => h2 q.2]
  ·rw [decide_eq_false (by omega), cond_false, if_neg fun q => h1 q.1]
theorem rsl8 {R : Type} (kf : Nat) (hkf : 1000 ≤ kf) (l : List Int) (hl : l.length ≤ 256) (hb : isB l) (Ke : List Int → Option R) : ∀ (m k i : Nat) (b : List Int), l.length ≤ i + m → m + 300 < k → b.length + 9 * m ≤ 10000000 →
  yy47_l8 kf k Ke b (i : Int) l = Ke (b ++ runsT l m i)
 | m, 0, i, b, _, h, _ => by omega
 | 0, k + 1, i, b, hi, _, _ => by
  unfold yy47_l8 yy47_l8_b
  rw [decide_eq_false (by omega), cond_false]; simp [runsT]
 | m + 1, k + 1, i, b, hi, hk, hbl => by
  by_cases h : i < l.length
  rotate_left
  ·unfold yy47_l8 yy47_l8_b runsT
   rw [decide_eq_false (by omega), cond_false, if_neg h, List.append_nil]
  obtain ⟨e1, e2⟩ := endR_ge l l.length i
  have e2 := e2 h
  have hbi := hb _ (getD_mem l i h 0)
  have hbk := hb _ (getD_mem l (endR l l.length i) e2 0)
  have h3 : endR l (l.length - i) i = endR l l.length i := endR_more l _ i _ (by omega) (by omega)
  have s1 := signT_len (l.getD i 0)
  have s2 := signT_len (l.getD (endR l l.length i) 0)
  unfold yy47_l8 yy47_l8_b runsT
  rw [decide_eq_true (by omega), cond_true, if_pos h]
  refine (rsl10 kf l hl b (i : Int) _ (l.length - i) k i (by omega) (by omega) h).trans ?_
  rw [h3]
  unfold pieceT
  generalize endR l l.length i = q at *
  have ih := fun (x : List Int) (hx : x.length ≤ b.length + 9) => rsl8 kf hkf l hl hb Ke m k (q + 1) x (by omega) (by omega) (by omega)
  rw [show IntKind.i64.wrap ((q : Int) - (i : Int)) = (q : Int) - (i : Int) by rw [IntKind.wrap_i64]; omega, wi1s q (by omega), show Int.toNat (i : Int) = i from rfl, show Int.toNat (q : Int) = q from rfl]
  generalize hA : signT (l.getD i 0) = A at *
  generalize hB : signT (l.getD q 0) = B at *
  by_cases q0 : q = i
  ·rw [decide_eq_true (by omega), cond_true, gd_true (decide_eq_true (by omega)), gd_true (decide_eq_true (by omega)), rsign_ok kf (by omega) _ hbi, hA, gd_true (small_of (by omega)), ih _ (by rw [List.length_append]; omega)]
   rw [if_neg (by omega), if_neg (by omega)]; simp
  rw [decide_eq_false (by omega), cond_false]
  by_cases q1 : q = i + 1
  ·rw [decide_eq_true (by omega), cond_true, gd_true (decide_eq_true (by omega)), gd_true (decide_eq_true (by omega)), rsign_ok kf (by omega) _ hbi, hA, gd_true (small_of (by omega)), gd_true (decide_eq_true (by omega)), gd_true (decide_eq_true (by omega)), rsign_ok kf (by omega) _ hbk, hB, gd_true (small_of (by rw [List.length_append]; omega)), ih _ (by rw [List.length_append, List.length_append]; omega)]
   rw [if_neg (by omega), if_pos (by omega)]; simp
  ·rw [decide_eq_false (by omega), cond_false, gd_true (decide_eq_true (by omega)), gd_true (decide_eq_true (by omega)), rsign_ok kf (by omega) _ hbi, hA, gd_true (small_of (by omega)), gd_true (small_of (by rw [List.length_append]; simp; omega)), gd_true (decide_eq_true (by omega)), gd_true (decide_eq_true (by omega)), rsign_ok kf (by omega) _ hbk, hB, gd_true (small_of (by rw [List.length_append, List.length_append]; simp; omega))]
   rw [show ([45] : List Int) = [45] from rfl]
   refine (ih _ (by rw [List.length_append, List.length_append, List.length_append]; simp; omega)).trans ?_
   rw [if_pos (by omega), if_pos (by omega)]; simp
theorem rset_ok {R : Type} (kf : Nat) (hkf : 3000 ≤ kf) (s : List Int) (hs : isSet s) (K : List Int → Option R) : yy47 kf s K = K (setT s) := by
 have hll := listOf_length (mem s)
 have hlb := listOf_isB (mem s)
 have hlist : ∀ K : List Int → Option R, yy20 kf s K = K (listOf (mem s)) := fun K => by
  have := rlist_s (R := R) kf (by omega) (mem s) K
  rwa [setOf_mem hs] at this
 unfold yy47 yy47_b setT
 rw [hlist]
 generalize listOf (mem s) = l at *
 by_cases h1 : l.length = 256
 ·rw [if_pos h1, decide_eq_true (by omega), cond_true]
 rw [if_neg h1, decide_eq_false (by omega), cond_false]
 by_cases h2 : l.length = 1
 ·rw [if_pos h2, decide_eq_true (by omega), cond_true, gd_true (decide_eq_true (by omega)), rsign_ok kf (by omega) _ (hlb _ (getD_mem l 0 (by omega) 0))]
 rw [if_neg h2, decide_eq_false (by omega), cond_false]
 have hr := runsT_len l l.length 0
 refine (rsl8 kf (by omega) l hll hlb _ l.length kf 0 [91] (by omega) (by omega) (by simp; omega)).trans ?_
 rw [gd_true (small_of (by rw [List.length_append]; simp; omega))]
 simp
mutual
noncomputable def textT : Sd → List Int
 | .node l ks => if l.1 = 1 then [91, 93] else if l.1 = 2 then [40, 41] else if l.1 = 3 then setT l.2.1 else if l.1 = 6 then starX ks else if l.1 = 4 then catX ks else altX true ks
noncomputable def starX : List Sd → List Int
 | [] => []
 | x :: _ => (if kd x = 4 ∨ kd x = 5 then [40] ++ (textT x ++ [41]) else textT x) ++ [42]
noncomputable def catX : List Sd → List Int
 | [] => []
 | x :: r => (if kd x = 5 then [40] ++ (textT x ++ [41]) else textT x) ++ catX r
noncomputable def altX : Bool → List Sd → List Int
 | _, [] => []
 | f, x :: r => (if f = true then [] else [124]) ++ ((if kd x = 2 then [] else textT x) ++ altX false r)
end
theorem textT_eq (t : Sd) : textT t = if kd t = 1 then [91, 93] else if kd t = 2 then [40, 41] else if kd t = 3 then setT (stt t) else if kd t = 6 then starX (kk t) else if kd t = 4 then catX (kk t) else altX true (kk t) := by
 obtain ⟨l, ks⟩ := t; rfl
theorem text_len : ∀ (n : Nat) (t : Sd), dep t ≤ n → (textT t).length + 10 ≤ 3010 * nod t
 | 0, t, h => by have := dep_pos t; omega
 | n + 1, t, h => by
  have hn := nod_eq t
  have kids : ∀ x ∈ kk t, (textT x).length + 10 ≤ 3010 * nod x := fun x hx => text_len n x (by have := dep_kid hx; omega)
  have hcat : ∀ l : List Sd, (∀ x ∈ l, (textT x).length + 10 ≤ 3010 * nod x) → (catX l).length ≤ 3010 * nodL l ∧ ∀ f, (altX f l).length ≤ 3010 * nodL l := by
   intro l
   induction l with
   | nil => intro _; exact ⟨by simp [catX], fun f => by simp [altX]⟩
   | cons x r ih =>
    intro hx
    obtain ⟨i1, i2⟩ := ih fun y hy => hx y (by simp [hy])
    have h1 := hx x (by simp)
    rw [show nodL (x :: r) = nod x + nodL r from rfl]
    refine ⟨?_, fun f => ?_⟩
    ·unfold catX
     rw [List.length_append]
     split
     ·simp only [List.length_append, List.length_singleton]; omega
     ·omega
    ·have i2 := i2 false
     unfold altX
     rw [List.length_append, List.length_append]
     split <;> split <;> simp only [List.length_nil, List.length_singleton] <;> omega
  rw [textT_eq]
  split
  ·have := nod_pos t; simp; omega
  split
  ·have := nod_pos t; simp; omega
  split
  ·have := setT_len (stt t); have := nod_pos t; omega
  split
  ·cases hk : kk t with
   | nil => have := nod_pos t; simp [starX]; omega
   | cons x r =>
    have h1 := kids x (by rw [hk]; simp)
    rw [hn, hk, show nodL (x :: r) = nod x + nodL r from rfl]
    unfold starX
    rw [List.length_append]
    split
    ·simp only [List.length_append, List.length_singleton]; omega
    ·simp only [List.length_singleton]; omega
  split
  ·have := (hcat (kk t) kids).1; omega
  ·have := (hcat (kk t) kids).2 true; omega
theorem catX_drop {l : List Sd} {i : Nat} (h : i < l.length) : catX (l.drop i) = (if kd (l.getD i DD) = 5 then [40] ++ (textT (l.getD i DD) ++ [41]) else textT (l.getD i DD)) ++ catX (l.drop (i + 1)) := by
 rw [getD_drop l i h DD]; rfl
theorem altX_drop {l : List Sd} {i : Nat} (h : i < l.length) (f : Bool) : altX f (l.drop i) = (if f = true then [] else [124]) ++ ((if kd (l.getD i DD) = 2 then [] else textT (l.getD i DD)) ++ altX false (l.drop (i + 1))) := by
 rw [getD_drop l i h DD]; rfl
theorem rtl15 {R : Type} (c : Int → List Int → List Sd → (List Int → Option R) → Option R) (kf : Nat) (k4 : Int) (ks : List Sd) (hl : ks.length ≤ 100000)
  (hc : ∀ x ∈ ks, ∀ K : List Int → Option R, c (kd x) (stt x) (kk x) K = K (textT x)) (hb : ∀ x ∈ ks, (textT x).length ≤ 9000000) (Ke : List Int → Option R) :
  ∀ (m k i : Nat) (b : List Int), i + m = ks.length → m < k → b.length + (if k4 = 4 then catX (ks.drop i) else altX (decide (i = 0)) (ks.drop i)).length ≤ 10000000 →
  yy49_l15 c kf k k4 ks Ke b (i : Int) = Ke (b ++ if k4 = 4 then catX (ks.drop i) else altX (decide (i = 0)) (ks.drop i))
 | m, 0, i, b, _, h, _ => by omega
 | 0, k + 1, i, b, hi, _, _ => by
  unfold yy49_l15 yy49_l15_b
  rw [decide_eq_false (by omega), cond_false, List.drop_eq_nil_of_le (by omega)]
  split <;> simp [catX, altX]
 | m + 1, k + 1, i, b, hi, hk, hbl => by
  have g0 : decide (0 ≤ (i : Int)) = true := decide_eq_true (by omega)
  have g1 : decide ((i : Int) < (ks.length : Int)) = true := decide_eq_true (by omega)
  have hx := hc _ (getD_mem ks i (by omega) DD)
  have ih := rtl15 c kf k4 ks hl hc hb Ke m k (i + 1)
  have hf1 : decide (i + 1 = 0) = false := decide_eq_false (by omega)
  rw [hf1] at ih
  unfold yy49_l15 yy49_l15_b
  rw [catX_drop (by omega), altX_drop (by omega)] at hbl ⊢
  simp only [g0, g1, gdt, cond_true]
  rw [show Int.toNat (i : Int) = i from rfl, wi1s i (by omega)]
  generalize ks.getD i DD = x at *
  by_cases h4 : k4 = 4
  ·rw [if_pos h4] at hbl ⊢
   rw [if_pos h4] at ih
   rw [decide_eq_true h4, cond_true]
   by_cases h5 : kd x = 5
   ·rw [if_pos h5] at hbl ⊢
    simp only [List.length_append, List.length_singleton] at hbl
    rw [decide_eq_true h5, cond_true, gd_true (small_of (by simp; omega))]
    refine (hx _).trans ?_
    rw [gd_true (small_of (by simp only [List.length_append, List.length_singleton]; omega)), gd_true (small_of (by simp only [List.length_append, List.length_singleton]; omega))]
    rw [ih _ (by omega) (by omega) (by simp only [List.length_append, List.length_singleton]; omega)]
    simp
   ·rw [if_neg h5] at hbl ⊢
    simp only [List.length_append] at hbl
    rw [decide_eq_false h5, cond_false, cond_true]
    refine (hx _).trans ?_
    rw [gd_true (small_of (by omega)), ih _ (by omega) (by omega) (by rw [List.length_append]; omega)]
    simp
  ·rw [if_neg h4] at hbl ⊢
   rw [if_neg h4] at ih
   rw [decide_eq_false h4, cond_false, cond_false]
   have main : ∀ (b' : List Int) (hb' : b'.length + ((if kd x = 2 then [] else textT x) ++ altX false (ks.drop (i + 1))).length ≤ 10000000), (bif (!(decide (kd x = 2))) then
      (c (kd x) (stt x) (kk x) (fun (v18 : List Int) =>
       gd (decide (b'.length + v18.length < SMALL))
       (yy49_l15 c kf k k4 ks Ke (b' ++ v18) ((i + 1 : Nat) : Int))))
      else (yy49_l15 c kf k k4 ks Ke b' ((i + 1 : Nat) : Int))) = Ke (b' ++ ((if kd x = 2 then [] else textT x) ++ altX false (ks.drop (i + 1)))) := by
    intro b' hb'
    by_cases h2 : kd x = 2
    ·rw [if_pos h2] at hb' ⊢
     rw [decide_eq_true h2, Bool.not_true, cond_false, List.nil_append]
     exact ih _ (by omega) (by omega) hb'
    ·rw [if_neg h2] at hb' ⊢
     rw [List.length_append] at hb'
     rw [decide_eq_false h2, Bool.not_false, cond_true, hx, gd_true (small_of (by omega)), ih _ (by omega) (by omega) (by rw [List.length_append]; omega)]
     simp
   by_cases h0 : i = 0
   ·rw [decide_eq_true h0, if_pos rfl] at hbl
    rw [decide_eq_false (by omega), cond_false, decide_eq_true h0, if_pos rfl, List.nil_append]
    rw [List.nil_append] at hbl
    exact main b hbl
   ·rw [decide_eq_false h0, if_neg Bool.false_ne_true] at hbl
    rw [List.length_append, List.length_singleton] at hbl
    rw [decide_eq_true (by omega), cond_true, decide_eq_false h0, if_neg Bool.false_ne_true, gd_true (small_of (by rw [List.length_singleton]; omega))]
    rw [← List.append_assoc]
    exact main (b ++ [124]) (by rw [List.length_append, List.length_singleton]; omega)
theorem rtext_ok {R : Type} : ∀ (n : Nat) (t : Sd) (kf : Nat), Fit n t → plT t = true → 6000 + n ≤ kf → ∀ K : List Int → Option R, yy49 kf (kd t) (stt t) (kk t) K = K (textT t)
 | 0, t, kf, h, _, _, K => by have := dep_pos t; have := h.1; omega
 | n + 1, t, 0, _, _, h, K => by omega
 | n + 1, t, kf + 1, hf, hp, hk, K => by
  have hkl := kk_len t
  have hn := hf.2.1
  have hkids := fun x hx => hf.kid (x := x) hx
  have hpk := pl_kids hp
  have hlen := text_len _ t (Nat.le_refl _)
  have hx : ∀ x ∈ kk t, ∀ K : List Int → Option R, yy49 kf (kd x) (stt x) (kk x) K = K (textT x) := fun x hx K => rtext_ok n x kf (hkids x hx) (hpk x hx) (by omega) K
  have hb : ∀ x ∈ kk t, (textT x).length ≤ 9000000 := fun x hx => by have := text_len _ x (Nat.le_refl _); have := nod_kid hx; omega
  rw [textT_eq] at hlen ⊢
  unfold yy49 yy49_b
  by_cases h1 : kd t = 1
  ·rw [decide_eq_true h1, cond_true, if_pos h1]
  rw [if_neg h1] at hlen ⊢
  rw [decide_eq_false h1, cond_false]
  by_cases h2 : kd t = 2
  ·rw [decide_eq_true h2, cond_true, if_pos h2]
  rw [if_neg h2] at hlen ⊢
  rw [decide_eq_false h2, cond_false]
  by_cases h3 : kd t = 3
  ·rw [decide_eq_true h3, cond_true, if_pos h3, rset_ok kf (by omega) _ (setsOk_iff.1 hf.2.2).1]
  rw [if_neg h3] at hlen ⊢
  rw [decide_eq_false h3, cond_false]
  by_cases h6 : kd t = 6
  ·rw [if_pos h6] at hlen ⊢
   rw [decide_eq_true h6, cond_true]
   have hfo := pl_form hp
   rw [h6] at hfo
   obtain ⟨x, hxe⟩ : ∃ x, kk t = [x] := List.length_eq_one_iff.1 (form6.1 hfo).2.1
   have hxx := hx x (by rw [hxe]; simp)
   have hbx := hb x (by rw [hxe]; simp)
   rw [show starX (kk t) = (if kd x = 4 ∨ kd x = 5 then [40] ++ (textT x ++ [41]) else textT x) ++ [42] by rw [hxe]; rfl]
   rw [hxe, gd_true (decide_eq_true (by simp))]
   show (bif decide (kd x = 4) then _ else _) = _
   have br : yy49 kf (kd x) (stt x) (kk x) (fun (v6 : List Int) =>
      gd (decide ([40].length + v6.length < SMALL))
      (gd (decide (([40] ++ v6).length + [41, 42].length < SMALL))
       (K (([40] ++ v6) ++ [41, 42])))) = K (([40] ++ (textT x ++ [41])) ++ [42]) := by
    refine (hxx _).trans ?_
    rw [gd_true (small_of (by simp; omega)), gd_true (small_of (by simp only [List.length_append, List.length_singleton, List.length_cons, List.length_nil]; omega))]
    simp
   have nb : yy49 kf (kd x) (stt x) (kk x) (fun (v7 : List Int) =>
      gd (decide (v7.length + [42].length < SMALL))
      (K (v7 ++ [42]))) = K (textT x ++ [42]) := by
    refine (hxx _).trans ?_
    rw [gd_true (small_of (by simp; omega))]
   by_cases q4 : kd x = 4
   ·rw [decide_eq_true q4, if_pos (Or.inl q4)]; exact br
   ·rw [decide_eq_false q4, cond_false]
    by_cases q5 : kd x = 5
    ·rw [if_pos (Or.inr q5)]
     show (bif decide (kd x = 5) then _ else _) = _
     rw [decide_eq_true q5]; exact br
    ·rw [if_neg (fun q => q.elim q4 q5)]
     show (bif decide (kd x = 5) then _ else _) = _
     rw [decide_eq_false q5]; exact nb
  rw [if_neg h6] at hlen ⊢
  rw [decide_eq_false h6, cond_false]
  have e0 : decide ((0 : Nat) = 0) = true := rfl
  refine (rtl15 (yy49 kf) kf (kd t) (kk t) (by omega) hx hb _ (kk t).length kf 0 [] (by omega) (by omega) (by rw [List.drop_zero, e0, List.length_nil, Nat.zero_add]; omega)).trans ?_
  rw [List.drop_zero, List.nil_append, e0]
end Go.Ab.T

/- Shown: what Show answers; the law ShowAll. -/
namespace Go.Ab.T
open Go Go.Ab
set_option linter.unusedVariables false
set_option linter.unusedSimpArgs false
set_option maxRecDepth 20000
noncomputable def showT (t : Sd) : List Int := if plT t = true ∧ (textT t).length ≤ 4000 then textT t else []
theorem rshow_ok {R : Type} (n : Nat) (t : Sd) (kf : Nat) (hf : Fit n t) (hn : nod t ≤ 1000) (hk : 6000 + n ≤ kf) (K : List Int → Option R) : yy45 kf (kd t) (stt t) (kk t) K = K (showT t) := by
 unfold yy45 yy45_b showT
 rw [rplain_ok n t kf hf hn hk]
 cases hp : plT t with
 | false => rw [if_neg (fun q => by cases q.1)]; rfl
 | true =>
  rw [Bool.not_true, cond_false, rtext_ok n t kf hf hp hk]
  by_cases h : (textT t).length ≤ 4000
  ·rw [decide_eq_false (by omega), cond_false, if_pos ⟨rfl, h⟩]
  ·rw [decide_eq_true (by omega), cond_true, if_neg (fun q => h q.2)]
end Go.Ab.T

/- Shown: the law ShowAll. -/
namespace Go.Ab.T
open Go Go.Ab
set_option linter.unusedVariables false
set_option linter.unusedSimpArgs false
set_option maxRecDepth 20000
theorem dep_nod : ∀ (n : Nat) (t : Sd), nod t ≤ n → dep t ≤ nod t
 | 0, t, h => by have := nod_pos t; omega
 | n + 1, t, h => by
  rw [dep_eq, nod_eq]
  have key : ∀ l : List Sd, (∀ x ∈ l, dep x ≤ nod x) → depL l ≤ nodL l := by
   intro l
   induction l with
   | nil => intro _; exact Nat.le_refl _
   | cons x r ih =>
    intro hx
    have h1 := hx x (by simp)
    have h2 := ih fun y hy => hx y (by simp [hy])
    rw [show depL (x :: r) = max (dep x) (depL r) from rfl, show nodL (x :: r) = nod x + nodL r from rfl]
    omega
  have := key (kk t) fun x hx => dep_nod n x (by have := nod_kid hx; omega)
  omega
end Go.Ab.T

/- Shown: how long texts are, by runs. -/
namespace Go.Ab.T
open Go Go.Ab
set_option linter.unusedVariables false
set_option linter.unusedSimpArgs false
set_option maxRecDepth 20000
def rs (s : List Int) (b : Nat) : Bool := mem s b && (decide (b = 0) || !mem s (b - 1))
def runsN (s : List Int) : Nat := (List.range 256).countP (rs s)
theorem runs_uni (s t : List Int) : runsN (uniS s t) ≤ runsN s + runsN t := by
 unfold runsN
 have hm : ∀ b, b < 256 → mem (uniS s t) b = (mem s b || mem t b) := fun b hb => by unfold uniS; rw [mem_setOf _ b hb]
 have key : ∀ l : List Nat, (∀ b ∈ l, b < 256) → l.countP (rs (uniS s t)) ≤ l.countP (rs s) + l.countP (rs t) := by
  intro l
  induction l with
  | nil => intro _; simp
  | cons b r ih =>
   intro hb
   have ih := ih fun c hc => hb c (by simp [hc])
   have hb0 := hb b (by simp)
   rw [List.countP_cons, List.countP_cons, List.countP_cons]
   have : (if rs (uniS s t) b = true then 1 else 0) ≤ (if rs s b = true then 1 else 0) + (if rs t b = true then 1 else 0) := by
    unfold rs
    rw [hm b hb0, hm (b - 1) (by omega)]
    cases mem s b <;> cases mem t b <;> cases mem s (b - 1) <;> cases mem t (b - 1) <;> cases decide (b = 0) <;> simp
   omega
 exact key _ fun b hb => List.mem_range.1 hb
theorem countP_few {p : Nat → Bool} (L : List Nat) (h : ∀ b, b < 256 → p b = true → b ∈ L) : (List.range 256).countP p ≤ L.length := by
 rw [List.countP_eq_length_filter]
 have : ∀ (l ys : List Nat), l.Nodup → (∀ x ∈ l, x ∈ ys) → l.length ≤ ys.length := by
  intro l
  induction l with
  | nil => intro ys _ _; simp
  | cons a r ih =>
   intro ys hn hs
   obtain ⟨hn1, hn2⟩ := List.nodup_cons.1 hn
   have ha := hs a (by simp)
   have := ih (ys.erase a) hn2 fun x hx => (List.mem_erase_of_ne (fun h => hn1 (by rw [← h]; exact hx))).2 (hs x (by simp [hx]))
   rw [List.length_erase_of_mem ha] at this
   have := List.length_pos_of_mem ha
   simp only [List.length_cons]; omega
 refine this _ L (List.Nodup.sublist List.filter_sublist List.nodup_range) fun x hx => ?_
 obtain ⟨h1, h2⟩ := List.mem_filter.1 hx
 exact h x (List.mem_range.1 h1) h2
theorem runs_range (f t : Nat) : runsN (setOf fun b => decide (f ≤ b ∧ b ≤ t)) ≤ 1 := by
 refine countP_few [f] fun b hb h => ?_
 unfold rs at h
 rw [mem_setOf _ b hb, mem_setOf _ (b - 1) (by omega)] at h
 simp only [Bool.and_eq_true, Bool.or_eq_true, decide_eq_true_eq, Bool.not_eq_true', decide_eq_false_iff_not] at h
 simp; omega
theorem runs_of (l : List Int) (hl : ∀ x ∈ l, 0 ≤ x) : runsN (setOf fun b => decide ((b : Int) ∈ l)) ≤ l.length := by
 have h := countP_few (p := rs (setOf fun b => decide ((b : Int) ∈ l))) (l.map Int.toNat) fun b hb h => by
  unfold rs at h
  rw [mem_setOf _ b hb] at h
  simp only [Bool.and_eq_true, decide_eq_true_eq] at h
  exact List.mem_map.2 ⟨(b : Int), h.1, rfl⟩
 rwa [List.length_map] at h
theorem runs_not (c : Int) : runsN (setOf fun b => !decide ((b : Int) ∈ [c])) ≤ 2 := by
 refine countP_few [0, c.toNat + 1] fun b hb h => ?_
 unfold rs at h
 rw [mem_setOf _ b hb, mem_setOf _ (b - 1) (by omega)] at h
 simp only [List.mem_singleton, Bool.and_eq_true, Bool.or_eq_true, decide_eq_true_eq, Bool.not_eq_true', decide_eq_false_iff_not, Bool.not_not] at h
 simp; omega
end Go.Ab.T

/- Shown: what the constructors make of plain trees is plain; weights. -/
namespace Go.Ab.T
open Go Go.Ab
set_option linter.unusedVariables false
set_option linter.unusedSimpArgs false
set_option maxRecDepth 20000
mutual
noncomputable def wtT : Sd → Nat
 | .node l ks => if l.1 = 3 then 2 + 9 * runsN l.2.1 else 2 + wtL ks
noncomputable def wtL : List Sd → Nat
 | [] => 0
 | x :: r => (wtT x + 2) + wtL r
end
theorem wtT_eq (t : Sd) : wtT t = if kd t = 3 then 2 + 9 * runsN (stt t) else 2 + wtL (kk t) := by obtain ⟨l, ks⟩ := t; rfl
theorem wtL_cons (x : Sd) (r : List Sd) : wtL (x :: r) = (wtT x + 2) + wtL r := rfl
theorem wtL_append : ∀ a b : List Sd, wtL (a ++ b) = wtL a + wtL b
 | [], b => by simp [wtL]
 | x :: a, b => by rw [List.cons_append, wtL_cons, wtL_cons, wtL_append a b]; omega
theorem wtL_filter (p : Sd → Bool) : ∀ l : List Sd, wtL (l.filter p) ≤ wtL l
 | [] => Nat.le_refl _
 | x :: l => by
  have := wtL_filter p l
  rw [List.filter_cons]
  split
  ·rw [wtL_cons, wtL_cons]; omega
  ·rw [wtL_cons]; omega
theorem pl_none : plT noneT = true := by rw [plT_eq]; show (formB 1 ZS [] && plL []) = true; rw [form1.2 ⟨rfl, rfl⟩]; rfl
theorem pl_empty : plT emptyT = true := by rw [plT_eq]; show (formB 2 ZS [] && plL []) = true; rw [form2.2 ⟨rfl, rfl⟩]; rfl
theorem pl_set {s : List Int} (h : s ≠ ZS) : plT (Rose.node (3, s, ()) []) = true := by rw [plT_eq]; show (formB 3 s [] && plL []) = true; rw [form3.2 ⟨h, rfl⟩]; rfl
theorem sok_none : setsOk noneT := ⟨ZS_set, trivial⟩
theorem sok_empty : setsOk emptyT := ⟨ZS_set, trivial⟩
structure Gd (n w : Nat) (t : Sd) : Prop where
 pl : plT t = true
 sk : setsOk t
 nd : nod t ≤ n
 wt : wtT t ≤ w
theorem Gd.fit {n w : Nat} {t : Sd} (h : Gd n w t) (hn : n ≤ 2000) : Fit n t := ⟨by have := dep_nod _ t (Nat.le_refl _); have := h.nd; omega, by have := h.nd; omega, h.sk⟩
theorem Gd.none (n w : Nat) (hn : 1 ≤ n) (hw : 2 ≤ w) : Gd n w noneT := ⟨pl_none, sok_none, hn, hw⟩
theorem Gd.empty (n w : Nat) (hn : 1 ≤ n) (hw : 2 ≤ w) : Gd n w emptyT := ⟨pl_empty, sok_empty, hn, hw⟩
theorem flat_wt {c : Int} (hc : c ≠ 3) : ∀ l : List Sd, wtL (flatT c l) ≤ wtL l
 | [] => Nat.le_refl _
 | x :: l => by
  have := flat_wt hc l
  rw [flatT_cons, wtL_append, wtL_cons]
  split
  ·rename_i h
   rw [wtT_eq, if_neg (by omega)]; omega
  ·rw [wtL_cons]; simp only [wtL]; omega
theorem nodL_filter (p : Sd → Bool) : ∀ l : List Sd, nodL (l.filter p) ≤ nodL l
 | [] => Nat.le_refl _
 | x :: l => by
  have := nodL_filter p l
  rw [List.filter_cons, show nodL (x :: l) = nod x + nodL l from rfl]
  split
  ·rw [show nodL (x :: l.filter p) = nod x + nodL (l.filter p) from rfl]; omega
  ·omega
theorem oneOf_bd {k : Int} (hk : k ≠ 3) {a : Sd} (ha1 : nod a = 1) (ha2 : wtT a = 2) (l : List Sd) : nod (oneOf k a l) ≤ 1 + nodL l ∧ wtT (oneOf k a l) ≤ 2 + wtL l := by
 match l with
 | [] => exact ⟨by show nod a ≤ _; omega, by show wtT a ≤ _; omega⟩
 | [x] => exact ⟨by show nod x ≤ 1 + (nod x + 0); omega, by show wtT x ≤ 2 + ((wtT x + 2) + 0); omega⟩
 | x :: y :: r =>
  refine ⟨?_, ?_⟩
  ·show nodL (x :: y :: r) + 1 ≤ 1 + nodL (x :: y :: r); omega
  ·rw [wtT_eq]
   show (if k = 3 then _ else 2 + wtL (x :: y :: r)) ≤ 2 + wtL (x :: y :: r)
   rw [if_neg hk]; exact Nat.le_refl _
theorem cat_good {l : List Sd} (h : ∀ x ∈ l, plT x = true ∧ setsOk x) : Gd (1 + nodL l) (2 + wtL l) (catT l) := by
 have hf1 := flatT_nod 4 l
 have hf2 := flat_wt (c := 4) (by decide) l
 have hpl := flat_pl (c := 4) (l := l) fun x hx => (h x hx).1
 have hsk : ∀ x ∈ flatT 4 l, setsOk x := fun x hx => by
  rcases flat_mem hx with ⟨q, _⟩ | ⟨y, hy, hk, hxy⟩
  ·exact (h x q).2
  ·exact (setsOk_iff.1 (h y hy).2).2 x hxy
 have h4 := flat4_kd (l := l) fun x hx => (h x hx).1
 unfold catT
 by_cases hn : (flatT 4 l).any (fun x => decide (kd x = 1)) = true
 ·rw [if_pos hn]; exact Gd.none _ _ (by omega) (by omega)
 rw [if_neg hn]
 have hk1 : ∀ x ∈ flatT 4 l, kd x ≠ 1 := fun x hx q => hn (List.any_eq_true.2 ⟨x, hx, decide_eq_true q⟩)
 have hb := oneOf_bd (k := 4) (by decide) (a := emptyT) rfl rfl ((flatT 4 l).filter fun x => !decide (kd x = 2))
 have n1 := nodL_filter (fun x => !decide (kd x = 2)) (flatT 4 l)
 have n2 := wtL_filter (fun x => !decide (kd x = 2)) (flatT 4 l)
 have hm : ∀ x ∈ (flatT 4 l).filter (fun x => !decide (kd x = 2)), plT x = true ∧ setsOk x ∧ kd x ≠ 4 ∧ kd x ≠ 1 ∧ kd x ≠ 2 := fun x hx => by
  obtain ⟨a, b⟩ := List.mem_filter.1 hx
  exact ⟨hpl x a, hsk x a, h4 x a, hk1 x a, by simpa using b⟩
 generalize (flatT 4 l).filter (fun x => !decide (kd x = 2)) = o at *
 refine ⟨?_, ?_, by omega, by omega⟩
 ·match o, hm with
  | [], _ => exact pl_empty
  | [x], hm => exact (hm x (by simp)).1
  | x :: y :: r, hm =>
   show plT (Rose.node (4, ZS, ()) (x :: y :: r)) = true
   rw [plT_eq, Bool.and_eq_true]
   refine ⟨form4.2 ⟨rfl, (by show 1 < r.length + 1 + 1; omega), badL_iff.2 fun z hz => ?_⟩, plL_iff.2 fun z hz => (hm z hz).1⟩
   have := (hm z hz).2.2
   simp; omega
 ·match o, hm with
  | [], _ => exact sok_empty
  | [x], hm => exact (hm x (by simp)).2.1
  | x :: y :: r, hm => exact setsOk_iff.2 ⟨ZS_set, fun z hz => (hm z hz).2.1⟩
theorem insT_nod (l : List Sd) (r : Sd) : nodL (insT l r) ≤ nodL l + nod r ∧ wtL (insT l r) ≤ wtL l + (wtT r + 2) := by
 induction l with
 | nil => exact ⟨by show nod r + 0 ≤ 0 + nod r; omega, by show (wtT r + 2) + 0 ≤ 0 + (wtT r + 2); omega⟩
 | cons x l ih =>
  unfold insT
  split
  ·rw [show nodL (x :: insT l r) = nod x + nodL (insT l r) from rfl, show nodL (x :: l) = nod x + nodL l from rfl, wtL_cons, wtL_cons]; omega
  ·split
   ·omega
   ·rw [show nodL (r :: x :: l) = nod r + nodL (x :: l) from rfl, wtL_cons]; omega
theorem altR_bd : ∀ (l out : List Sd) (s : List Int), (∀ x ∈ l, plT x = true ∧ setsOk x) → isSet s →
  (∀ x ∈ (altR l out s).1, x ∈ out ∨ x ∈ l) ∧ nodL (altR l out s).1 + (if (altR l out s).2 = ZS then 0 else 1) ≤ nodL out + nodL l + (if s = ZS then 0 else 1) ∧
  wtL (altR l out s).1 + 9 * runsN (altR l out s).2 + (if (altR l out s).2 = ZS then 0 else 4) ≤ wtL out + wtL l + 9 * runsN s + (if s = ZS then 0 else 4)
 | [], out, s, _, _ => ⟨fun x hx => Or.inl hx, Nat.le_refl (nodL out + if s = ZS then 0 else 1), Nat.le_refl (wtL out + 9 * runsN s + if s = ZS then 0 else 4)⟩
 | x :: r, out, s, h, hs => by
  have hr := fun y hy => h y (List.mem_cons_of_mem x hy)
  rw [show nodL (x :: r) = nod x + nodL r from rfl, wtL_cons]
  unfold altR
  by_cases h1 : kd x = 1
  ·rw [if_pos h1]
   obtain ⟨a, b, c⟩ := altR_bd r out s hr hs
   exact ⟨fun y hy => (a y hy).imp id fun q => List.mem_cons_of_mem _ q, by omega, by omega⟩
  rw [if_neg h1]
  by_cases h3 : kd x = 3
  ·rw [if_pos h3]
   obtain ⟨a, b, c⟩ := altR_bd r out (uniS s (stt x)) hr (uniS_set _ _)
   have hu := runs_uni s (stt x)
   have hnp := nod_pos x
   rw [wtT_eq x, if_pos h3]
   refine ⟨fun y hy => (a y hy).imp id fun q => List.mem_cons_of_mem _ q, ?_, ?_⟩
   ·have : (if uniS s (stt x) = ZS then 0 else 1) ≤ (if s = ZS then 0 else 1) + 1 := by split <;> split <;> omega
    omega
   ·have : (if uniS s (stt x) = ZS then 0 else 4) ≤ (if s = ZS then 0 else 4) + 4 := by split <;> split <;> omega
    omega
  ·rw [if_neg h3]
   obtain ⟨a, b, c⟩ := altR_bd r (insT out x) s hr hs
   obtain ⟨i1, i2⟩ := insT_nod out x
   refine ⟨fun y hy => ?_, by omega, by omega⟩
   rcases a y hy with q | q
   ·rcases insT_mem q with rfl | q
    ·exact Or.inr (by simp)
    ·exact Or.inl q
   ·exact Or.inr (List.mem_cons_of_mem _ q)
theorem runs_zero : runsN ZS = 0 := by
 unfold runsN
 rw [List.countP_eq_zero]
 intro b hb
 unfold rs
 rw [show mem ZS b = false from mem_zero b]; simp
theorem alt_good {n : Nat} {l : List Sd} (h : ∀ x ∈ l, plT x = true ∧ setsOk x) (hf : ∀ x ∈ l, Fit n x) : Gd (1 + nodL l) (2 + wtL l) (altT l) ∧ ((kd (altT l) = 5 → ∀ x ∈ kk (altT l), (x ∈ flatT 5 l ∨ kd x = 3))) := by
 have hf1 := flatT_nod 5 l
 have hf2 := flat_wt (c := 5) (by decide) l
 have hpl := flat_pl (c := 5) (l := l) fun x hx => (h x hx).1
 have hsk : ∀ x ∈ flatT 5 l, setsOk x := fun x hx => by
  rcases flat_mem hx with ⟨q, _⟩ | ⟨y, hy, hk, hxy⟩
  ·exact (h x q).2
  ·exact (setsOk_iff.1 (h y hy).2).2 x hxy
 have h5 := flat5_kd (l := l) fun x hx => (h x hx).1
 obtain ⟨a1, a2⟩ := altR_out (n := n) (flatT 5 l) [] ZS (fun x hx => ⟨flat_fit hf x hx, h5 x hx⟩) (fun x hx => by cases hx) rfl
 obtain ⟨b1, b2, b3⟩ := altR_bd (flatT 5 l) [] ZS (fun x hx => ⟨hpl x hx, hsk x hx⟩) ZS_set
 obtain ⟨c1, c2, _⟩ := altR_inv (n := n) (flatT 5 l) [] ZS (flat_fit hf) (fun x hx => by cases hx) ZS_set
 rw [runs_zero, if_pos rfl] at b3
 rw [if_pos rfl] at b2
 simp only [nodL, wtL, Nat.zero_add, Nat.mul_zero, Nat.add_zero] at b2 b3
 have hmem : ∀ x ∈ (altR (flatT 5 l) [] ZS).1, x ∈ flatT 5 l := fun x hx => (b1 x hx).elim (fun q => by cases q) id
 have fin : ∀ o : List Sd, (∀ x ∈ o, plT x = true ∧ setsOk x ∧ kd x ≠ 5 ∧ kd x ≠ 1 ∧ (x ∈ flatT 5 l ∨ kd x = 3)) → riseL o = true → setsN o ≤ 1 → nodL o ≤ nodL l → wtL o ≤ wtL l →
   Gd (1 + nodL l) (2 + wtL l) (oneOf 5 noneT o) ∧ (kd (oneOf 5 noneT o) = 5 → ∀ x ∈ kk (oneOf 5 noneT o), (x ∈ flatT 5 l ∨ kd x = 3)) := by
  intro o hm hr hn1 hno hwo
  have hb := oneOf_bd (k := 5) (by decide) (a := noneT) rfl rfl o
  refine ⟨⟨?_, ?_, by omega, by omega⟩, fun hk x hx => ?_⟩
  ·match o, hm, hr, hn1 with
   | [], _, _, _ => exact pl_none
   | [x], hm, _, _ => exact (hm x (by simp)).1
   | x :: y :: r, hm, hr, hn1 =>
    show plT (Rose.node (5, ZS, ()) (x :: y :: r)) = true
    rw [plT_eq, Bool.and_eq_true]
    refine ⟨form5.2 ⟨rfl, (by show 1 < r.length + 1 + 1; omega), badL_iff.2 fun z hz => ?_, hr, hn1⟩, plL_iff.2 fun z hz => (hm z hz).1⟩
    have := (hm z hz).2.2
    simp; omega
  ·match o, hm with
   | [], _ => exact sok_none
   | [x], hm => exact (hm x (by simp)).2.1
   | x :: y :: r, hm => exact setsOk_iff.2 ⟨ZS_set, fun z hz => (hm z hz).2.1⟩
  ·match o, hm, hk, hx with
   | [], _, hk, _ => exact absurd (show (1 : Int) = 5 from hk) (by decide)
   | [z], hm, hk, _ => exact absurd hk (hm z (by simp)).2.2.1
   | z :: y :: r, hm, _, hx => exact (hm x hx).2.2.2.2
 unfold altT
 generalize altR (flatT 5 l) [] ZS = p at *
 obtain ⟨out, s⟩ := p
 dsimp only at *
 by_cases hz : s = ZS
 ·rw [if_pos hz] at b2 b3 ⊢
  exact fin out (fun x hx => ⟨hpl x (hmem x hx), hsk x (hmem x hx), (a1 x hx).1, (a1 x hx).2.1, Or.inl (hmem x hx)⟩) a2 (by rw [setsN_zero fun x hx => (a1 x hx).2.2]; omega) (by omega) (by omega)
 ·rw [if_neg hz] at b2 b3 ⊢
  have hset : setsOk (Rose.node (3, s, ()) [] : Sd) := ⟨c2, trivial⟩
  obtain ⟨i1, i2⟩ := insT_nod out (Rose.node (3, s, ()) [])
  have w3 : wtT (Rose.node (3, s, ()) [] : Sd) = 2 + 9 * runsN s := rfl
  have n3 : nod (Rose.node (3, s, ()) [] : Sd) = 1 := rfl
  refine fin (insT out (Rose.node (3, s, ()) [])) (fun x hx => ?_) (insT_rise (fun y hy => (c1 y hy).2.2) hset a2) ?_ (by omega) (by omega)
  ·rcases insT_mem hx with rfl | hx
   ·exact ⟨pl_set hz, hset, (by show (3 : Int) ≠ 5; decide), (by show (3 : Int) ≠ 1; decide), Or.inr rfl⟩
   ·exact ⟨hpl x (hmem x hx), hsk x (hmem x hx), (a1 x hx).1, (a1 x hx).2.1, Or.inl (hmem x hx)⟩
  ·have := setsN_ins out (Rose.node (3, s, ()) [])
   rw [setsN_zero fun x hx => (a1 x hx).2.2] at this
   omega
end Go.Ab.T

/- Shown: what is made of numbers is plain and short. -/
namespace Go.Ab.T
open Go Go.Ab
set_option linter.unusedVariables false
set_option linter.unusedSimpArgs false
set_option maxRecDepth 20000
def star1 (u : Sd) : Sd := if kd u = 6 then u else if kd u = 1 ∨ kd u = 2 then emptyT else Rose.node (6, ZS, ()) [u]
noncomputable def starT (t : Sd) : Sd := if kd t = 5 ∧ (kk t).any (fun x => decide (kd x = 2)) = true then star1 (altT ((kk t).filter fun x => !decide (kd x = 2))) else star1 t
theorem star_l10 {R : Type} (kf : Nat) (k0 : Int) (s0 : List Int) (ks : List Sd) (v15 : Int) (v16 : List Int) (v18 : List Sd) (hl : ks.length ≤ 100000) (Ke : Int → List Int → List Sd → Int → List Int → List Sd → List Sd → Option R) (c : Int → List Int → List Sd → (Int → List Int → List Sd → Option R) → Option R) :
  ∀ (m k i : Nat) (acc : List Sd), i + m = ks.length → m < k → acc.length ≤ i → yy42_l10 c kf k k0 s0 ks v15 v16 v18 Ke (i : Int) acc = Ke k0 s0 ks v15 v16 (acc ++ (ks.drop i).filter fun x => !decide (kd x = 2)) v18
 | m, 0, i, acc, _, h, _ => by omega
 | 0, k + 1, i, acc, hi, _, _ => by
  unfold yy42_l10 yy42_l10_b
  rw [decide_eq_false (by omega), cond_false, List.drop_eq_nil_of_le (by omega)]; simp
 | m + 1, k + 1, i, acc, hi, hk, ha => by
  have g0 : decide (0 ≤ (i : Int)) = true := decide_eq_true (by omega)
  have g1 : decide ((i : Int) < (ks.length : Int)) = true := decide_eq_true (by omega)
  unfold yy42_l10 yy42_l10_b
  rw [getD_drop ks i (by omega) DD, List.filter_cons]
  simp only [g0, g1, gdt, cond_true]
  rw [show Int.toNat (i : Int) = i from rfl, wi1s i (by omega)]
  generalize ks.getD i DD = x at *
  by_cases h2 : kd x = 2
  ·rw [decide_eq_true h2, Bool.not_true, cond_false, if_neg Bool.false_ne_true]
   exact star_l10 kf k0 s0 ks v15 v16 v18 hl Ke c m k (i + 1) acc (by omega) (by omega) (by omega)
  ·rw [decide_eq_false h2, Bool.not_false, cond_true, if_pos rfl, gd_true (small_of (by simp; omega)), eta]
   rw [star_l10 kf k0 s0 ks v15 v16 v18 hl Ke c m k (i + 1) _ (by omega) (by omega) (by simp; omega)]
   simp
theorem filter_len {l : List Sd} (p : Sd → Bool) : (l.filter p).length < l.length ↔ l.any (fun x => !p x) = true := by
 induction l with
 | nil => simp
 | cons x l ih =>
  rw [List.filter_cons, List.any_cons]
  have hle := List.length_filter_le p l
  cases hp : p x with
  | true => rw [if_pos rfl, Bool.not_true, Bool.false_or, ← ih]; simp
  | false => rw [if_neg Bool.false_ne_true, Bool.not_false, Bool.true_or]; simp only [List.length_cons]; exact ⟨fun _ => trivial, fun _ => by omega⟩
def noE (t : Sd) : Prop := kd t = 5 → ∀ x ∈ kk t, kd x ≠ 2
theorem star1_ok {R : Type} (kf n : Nat) (hkf : 3000 + n ≤ kf) (t : Sd) (hf : Fit n t) (hn : noE t) (K : Int → List Int → List Sd → Option R) : yy42 (kf + 1) (kd t) (stt t) (kk t) K = K (kd (star1 t)) (stt (star1 t)) (kk (star1 t)) := by
 unfold yy42 yy42_b star1
 have hcp := fun K : Int → List Int → List Sd → Option R => copy_ok n t kf hf.1 hkf hf.2.1 K
 by_cases h6 : kd t = 6
 ·rw [decide_eq_true h6, cond_true, if_pos h6, hcp]
 rw [decide_eq_false h6, cond_false, if_neg h6]
 dsimp only
 by_cases h1 : kd t = 1
 ·rw [decide_eq_true h1, cond_true, if_pos (Or.inl h1)]; rfl
 rw [decide_eq_false h1, cond_false]
 by_cases h2 : kd t = 2
 ·rw [decide_eq_true h2, cond_true, if_pos (Or.inr h2)]; rfl
 rw [decide_eq_false h2, cond_false, if_neg (fun q => q.elim h1 h2)]
 by_cases h5 : kd t = 5
 ·rw [decide_eq_true h5, cond_true]
  have hkl := kk_len t
  have hn2 := hf.2.1
  refine (star_l10 kf (kd t) (stt t) (kk t) 0 ZS [] (by omega) _ (yy42 kf) (kk t).length kf 0 [] (by omega) (by omega) (by simp)).trans ?_
  rw [List.drop_zero, List.nil_append]
  have hfl : (kk t).filter (fun x => !decide (kd x = 2)) = kk t := List.filter_eq_self.2 fun x hx => by simp [hn h5 x hx]
  rw [hfl, decide_eq_false (by omega), cond_false, hcp, eta]
  rfl
 ·rw [decide_eq_false h5, cond_false, hcp, eta]
  rfl
theorem star_ok {R : Type} (kf n : Nat) (hkf : 3000 + n ≤ kf) (t : Sd) (hf : Fit n t) (hp : plT t = true) (hn : nod t ≤ 900) (K : Int → List Int → List Sd → Option R) : yy42 (kf + 2) (kd t) (stt t) (kk t) K = K (kd (starT t)) (stt (starT t)) (kk (starT t)) := by
 unfold starT
 by_cases he : kd t = 5 ∧ (kk t).any (fun x => decide (kd x = 2)) = true
 rotate_left
 ·rw [if_neg he]
  refine star1_ok (kf + 1) n (by omega) t hf (fun h5 x hx q => he ⟨h5, List.any_eq_true.2 ⟨x, hx, decide_eq_true q⟩⟩) K
 obtain ⟨h5, hany⟩ := he
 rw [if_pos ⟨h5, hany⟩]
 have hkl := kk_len t
 have hne := nod_eq t
 unfold yy42 yy42_b
 rw [decide_eq_false (by omega), cond_false]
 dsimp only
 rw [decide_eq_false (by omega), cond_false, decide_eq_false (by omega), cond_false, decide_eq_true h5, cond_true]
 refine (star_l10 (kf + 1) (kd t) (stt t) (kk t) 0 ZS [] (by omega) _ (yy42 (kf + 1)) (kk t).length (kf + 1) 0 [] (by omega) (by omega) (by simp)).trans ?_
 rw [List.drop_zero, List.nil_append]
 have hlt := (filter_len (l := kk t) fun x => !decide (kd x = 2)).2 (by simpa using hany)
 rw [decide_eq_true (by omega), cond_true]
 have hpk := pl_kids hp
 have hsk := (setsOk_iff.1 hf.2.2).2
 have hnl := nodL_filter (fun x => !decide (kd x = 2)) (kk t)
 have hm : ∀ x ∈ (kk t).filter (fun x => !decide (kd x = 2)), x ∈ kk t ∧ kd x ≠ 2 := fun x hx => by
  obtain ⟨a, b⟩ := List.mem_filter.1 hx
  exact ⟨a, by simpa using b⟩
 have hka := pl_alt hp h5
 have hfk : ∀ x ∈ kk t, Fit n x := fun x hx => by
  cases n with
  | zero => have := hf.1; have := dep_pos t; omega
  | succ n => exact (hf.kid hx).mono (by omega)
 generalize (kk t).filter (fun x => !decide (kd x = 2)) = l at *
 rw [alt_ok (kf + 1) n (by omega) l (by omega) fun x hx => hfk x (hm x hx).1]
 obtain ⟨g1, g2⟩ := alt_good (n := n) (l := l) (fun x hx => ⟨hpk x (hm x hx).1, hsk x (hm x hx).1⟩) fun x hx => hfk x (hm x hx).1
 have hfu : Fit (1 + nodL l) (altT l) := g1.fit (by omega)
 have hfd : Fit n (altT l) ∨ True := Or.inr trivial
 have hnoE : noE (altT l) := fun hk x hx => by
  rcases g2 hk x hx with q | q
  ·rcases flat_mem q with ⟨q1, _⟩ | ⟨y, hy, hyk, _⟩
   ·exact (hm x q1).2
   ·exact absurd hyk (hka y (hm y hy).1).1
  ·omega
 have hdp : dep (altT l) ≤ n := by
  have hdl : ∀ (k : Int) (a : Sd), dep a = 1 → 1 ≤ n → ∀ o : List Sd, (∀ x ∈ o, dep x + 1 ≤ n) → dep (oneOf k a o) ≤ n := by
   intro k a ha h1n o ho
   match o with
   | [] => show dep a ≤ n; omega
   | [x] => have := ho x (by simp); show dep x ≤ n; omega
   | x :: y :: r =>
    show depL (x :: y :: r) + 1 ≤ n
    have key : ∀ l : List Sd, l ≠ [] → (∀ x ∈ l, dep x + 1 ≤ n) → depL l + 1 ≤ n := by
     intro l
     induction l with
     | nil => intro h; exact absurd rfl h
     | cons z q ih =>
      intro _ hz
      have h1 := hz z (by simp)
      rw [show depL (z :: q) = max (dep z) (depL q) from rfl]
      cases q with
      | nil => rw [show depL [] = 0 from rfl]; omega
      | cons w q' => have := ih (by simp) fun y hy => hz y (by simp [hy]); omega
    exact key _ (by simp) ho
  have hdt := hf.1
  have hdk : ∀ x ∈ kk t, dep x + 1 ≤ n := fun x hx => by have := dep_kid hx; omega
  have h2n : 2 ≤ n := by
   obtain ⟨x, hx, _⟩ := List.any_eq_true.1 hany
   have := hdk x hx
   have := dep_pos x; omega
  have hflat : flatT 5 l = l := flat_id fun x hx => (hka x (hm x hx).1).1
  obtain ⟨b1, _, _⟩ := altR_bd (flatT 5 l) [] ZS (fun x hx => by rw [hflat] at hx; exact ⟨hpk x (hm x hx).1, hsk x (hm x hx).1⟩) ZS_set
  unfold altT
  rw [hflat] at b1 ⊢
  refine hdl 5 noneT rfl (by omega) _ fun x hx => ?_
  split at hx
  ·rcases b1 x hx with q | q
   ·cases q
   ·exact hdk x (hm x q).1
  ·rcases insT_mem hx with rfl | hx
   ·show 1 + 1 ≤ n; omega
   ·rcases b1 x hx with q | q
    ·cases q
    ·exact hdk x (hm x q).1
 exact star1_ok kf n hkf (altT l) ⟨hdp, by have := g1.nd; omega, g1.sk⟩ hnoE K
theorem star1_good {n w : Nat} {t : Sd} (h : Gd n w t) (hn : 1 ≤ n) (hw : 2 ≤ w) : Gd (n + 1) (w + 4) (star1 t) := by
 unfold star1
 split
 ·exact ⟨h.pl, h.sk, by have := h.nd; omega, by have := h.wt; omega⟩
 split
 ·exact Gd.empty _ _ (by omega) (by omega)
 ·rename_i h6 h12
  refine ⟨?_, setsOk_iff.2 ⟨ZS_set, fun z hz => by rw [List.mem_singleton.1 hz]; exact h.sk⟩, ?_, ?_⟩
  ·rw [plT_eq, Bool.and_eq_true]
   refine ⟨form6.2 ⟨rfl, rfl, badL_iff.2 fun z hz => ?_⟩, plL_iff.2 fun z hz => by rw [List.mem_singleton.1 hz]; exact h.pl⟩
   rw [List.mem_singleton.1 hz]
   simp; omega
  ·show (nod t + 0) + 1 ≤ n + 1; have := h.nd; omega
  ·rw [wtT_eq]
   show (if (6 : Int) = 3 then _ else 2 + ((wtT t + 2) + 0)) ≤ w + 4
   rw [if_neg (by decide)]; have := h.wt; omega
theorem star_good {n w m : Nat} {t : Sd} (h : Gd n w t) (hf : Fit m t) (hn : 1 ≤ n) (hw : 2 ≤ w) : Gd (n + 1) (w + 4) (starT t) := by
 unfold starT
 split
 rotate_left
 ·exact star1_good h hn hw
 rename_i he
 have hpk := pl_kids h.pl
 have hsk := (setsOk_iff.1 h.sk).2
 have hnl := nodL_filter (fun x => !decide (kd x = 2)) (kk t)
 have hwl := wtL_filter (fun x => !decide (kd x = 2)) (kk t)
 have hm : ∀ x ∈ (kk t).filter (fun x => !decide (kd x = 2)), x ∈ kk t := fun x hx => (List.mem_filter.1 hx).1
 have hfk : ∀ x ∈ kk t, Fit m x := fun x hx => by
  cases m with
  | zero => have := hf.1; have := dep_pos t; omega
  | succ m => exact (hf.kid hx).mono (by omega)
 obtain ⟨g1, _⟩ := alt_good (n := m) (l := (kk t).filter fun x => !decide (kd x = 2)) (fun x hx => ⟨hpk x (hm x hx), hsk x (hm x hx)⟩) fun x hx => hfk x (hm x hx)
 have hne := nod_eq t
 have hwe := wtT_eq t
 rw [if_neg (by omega)] at hwe
 have h1 := h.nd
 have h2 := h.wt
 exact star1_good ⟨g1.pl, g1.sk, by have := g1.nd; omega, by have := g1.wt; omega⟩ hn hw
theorem pnum {R : Type} (q : Nat) (hq : 1 ≤ q) (l : List Int) (hl : ∀ x ∈ l, 0 ≤ x ∧ x ≤ 255) (hll : l.length ≤ 1000) (p : Nat) (hp : p ≤ l.length) :
  ∃ t p' : Nat, t < q ∧ p ≤ p' ∧ p' ≤ l.length ∧ (p < l.length → p' = p + 1) ∧ (l.length ≤ p → t = 0) ∧ ∀ K : Int → List Int → Int → Option R, yy15 (q : Int) l (p : Int) K = K (t : Int) l (p' : Int) := by
 unfold yy15 yy15_b
 by_cases h : l.length ≤ p
 ·exact ⟨0, p, by omega, by omega, hp, fun q => by omega, fun _ => rfl, fun K => by rw [decide_eq_true (by omega), cond_true]; rfl⟩
 have hx := hl _ (getD_mem l p (by omega) 0)
 obtain ⟨x, hxe⟩ := Int.eq_ofNat_of_zero_le hx.1
 refine ⟨x % q, p + 1, Nat.mod_lt _ (by omega), by omega, by omega, fun _ => rfl, fun q => by omega, fun K => ?_⟩
 have e1 : IntKind.i64.wrap (IntKind.i64.wrap ((p : Int) + 1) - 1) = (p : Int) := by simp only [IntKind.wrap_i64]; omega
 rw [decide_eq_false (by omega), cond_false, e1, gd_true (decide_eq_true (by omega)), gd_true (decide_eq_true (by omega)), gd_true (decide_eq_true (by omega)), show Int.toNat (p : Int) = p from rfl, hxe]
 dsimp only
 rw [show IntKind.i64.wrap (x : Int) = (x : Int) by rw [IntKind.wrap_i64]; omega, wi1s p (by omega), Int.tmod_eq_emod_of_nonneg (by omega)]
 rfl
theorem w97 (v : Nat) (hv : v < 4) : IntKind.u8.wrap (IntKind.i64.wrap (97 + (v : Int))) = ((97 + v : Nat) : Int) := by
 have e1 : (97 : Int) + (v : Int) = ((97 + v : Nat) : Int) := by omega
 have e2 : ∀ n : Nat, n < 200 → IntKind.i64.wrap (n : Int) = (n : Int) := fun n hn => by rw [IntKind.wrap_i64]; omega
 have e3 : ∀ n : Nat, n < 200 → IntKind.u8.wrap (n : Int) = (n : Int) := fun n hn => by rw [IntKind.wrap_u8]; omega
 rw [e1, e2 _ (by omega), e3 _ (by omega)]
theorem pset {R : Type} (kf : Nat) (hkf : 3000 ≤ kf) (l : List Int) (hl : ∀ x ∈ l, 0 ≤ x ∧ x ≤ 255) (hll : l.length ≤ 1000) (p : Nat) (hp : p ≤ l.length) :
  ∃ (s : List Int) (p' : Nat), isSet s ∧ runsN s ≤ 3 ∧ p ≤ p' ∧ p' ≤ l.length ∧ ∀ K : List Int → List Int → Int → Option R, yy11 kf l (p : Int) K = K s l (p' : Int) := by
 obtain ⟨t, p1, ht, h1, h2, _, _, hK⟩ := pnum (R := R) 8 (by omega) l hl hll p hp
 have of1 : ∀ v : Nat, v < 4 → ∀ K : List Int → Option R, yy22 kf [IntKind.u8.wrap (IntKind.i64.wrap (97 + (v : Int)))] K = K (setOf fun b => decide ((b : Int) ∈ [((97 + v : Nat) : Int)])) := fun v hv K => by
  have e := w97 v hv
  rw [e, rof_s kf _ (by intro x hx; rw [List.mem_singleton.1 hx]; omega) (by simp) (by omega)]
 by_cases t0 : t = 0
 ·subst t0
  refine ⟨_, p1, setOf_isSet _, Nat.le_trans (runs_range 97 100) (by omega), h1, h2, fun K => ?_⟩
  unfold yy11 yy11_b
  rw [show (8 : Int) = ((8 : Nat) : Int) from rfl, hK]
  exact rrange_s kf (by omega) 97 100 (by omega) (by omega) _
 by_cases t1 : t = 1
 ·subst t1
  obtain ⟨f, p2, hf, a1, a2, _, _, hK2⟩ := pnum (R := R) 256 (by omega) l hl hll p1 h2
  obtain ⟨g, p3, hg, b1, b2, _, _, hK3⟩ := pnum (R := R) 256 (by omega) l hl hll p2 a2
  refine ⟨_, p3, setOf_isSet _, Nat.le_trans (runs_range f g) (by omega), by omega, b2, fun K => ?_⟩
  unfold yy11 yy11_b
  rw [show (8 : Int) = ((8 : Nat) : Int) from rfl, hK]
  rw [show decide (((1 : Nat) : Int) = 0) = false from rfl, cond_false, show decide (((1 : Nat) : Int) = 1) = true from rfl, cond_true, show (256 : Int) = ((256 : Nat) : Int) from rfl, hK2, hK3]
  rw [show IntKind.u8.wrap (f : Int) = (f : Int) by rw [IntKind.wrap_u8]; omega, show IntKind.u8.wrap (g : Int) = (g : Int) by rw [IntKind.wrap_u8]; omega]
  exact rrange_s kf (by omega) f g hf hg _
 by_cases t2 : t = 2
 ·subst t2
  obtain ⟨f, p2, hf, a1, a2, _, _, hK2⟩ := pnum (R := R) 4 (by omega) l hl hll p1 h2
  refine ⟨_, p2, setOf_isSet _, Nat.le_trans (runs_not ((97 + f : Nat) : Int)) (by omega), by omega, a2, fun K => ?_⟩
  unfold yy11 yy11_b
  rw [show (8 : Int) = ((8 : Nat) : Int) from rfl, hK]
  rw [show decide (((2 : Nat) : Int) = 0) = false from rfl, cond_false, show decide (((2 : Nat) : Int) = 1) = false from rfl, cond_false, show decide (((2 : Nat) : Int) = 2) = true from rfl, cond_true, show (4 : Int) = ((4 : Nat) : Int) from rfl, hK2, of1 f hf]
  exact rnot_s kf (by omega) _ _
 by_cases t3 : t = 3
 ·subst t3
  obtain ⟨f, p2, hf, a1, a2, _, _, hK2⟩ := pnum (R := R) 4 (by omega) l hl hll p1 h2
  obtain ⟨g, p3, hg, b1, b2, _, _, hK3⟩ := pnum (R := R) 4 (by omega) l hl hll p2 a2
  obtain ⟨h, p4, hh, c1, c2, _, _, hK4⟩ := pnum (R := R) 256 (by omega) l hl hll p3 b2
  refine ⟨_, p4, setOf_isSet _, (runs_of [((97 + f : Nat) : Int), ((97 + g : Nat) : Int), (h : Int)] (by intro x hx; simp at hx; omega)), by omega, c2, fun K => ?_⟩
  unfold yy11 yy11_b
  rw [show (8 : Int) = ((8 : Nat) : Int) from rfl, hK]
  rw [show decide (((3 : Nat) : Int) = 0) = false from rfl, cond_false, show decide (((3 : Nat) : Int) = 1) = false from rfl, cond_false, show decide (((3 : Nat) : Int) = 2) = false from rfl, cond_false, show decide (((3 : Nat) : Int) = 3) = true from rfl, cond_true, show (4 : Int) = ((4 : Nat) : Int) from rfl, hK2, hK3, show (256 : Int) = ((256 : Nat) : Int) from rfl, hK4]
  have e1 := w97 f hf
  have e2 := w97 g hg
  have e3 : IntKind.u8.wrap (h : Int) = (h : Int) := by rw [IntKind.wrap_u8]; omega
  rw [e1, e2, e3]
  exact rof_s kf _ (by intro x hx; simp at hx; omega) (by simp) (by omega) _
 by_cases t4 : t = 4
 ·subst t4
  refine ⟨_, p1, setOf_isSet _, Nat.le_trans (runs_range 0 255) (by omega), h1, h2, fun K => ?_⟩
  unfold yy11 yy11_b
  rw [show (8 : Int) = ((8 : Nat) : Int) from rfl, hK]
  exact rrange_s kf (by omega) 0 255 (by omega) (by omega) _
 ·obtain ⟨f, p2, hf, a1, a2, _, _, hK2⟩ := pnum (R := R) 4 (by omega) l hl hll p1 h2
  refine ⟨_, p2, setOf_isSet _, Nat.le_trans (runs_of [((97 + f : Nat) : Int)] (by intro x hx; simp at hx; omega)) (by simp), by omega, a2, fun K => ?_⟩
  unfold yy11 yy11_b
  rw [show (8 : Int) = ((8 : Nat) : Int) from rfl, hK]
  rw [decide_eq_false (by omega), cond_false, decide_eq_false (by omega), cond_false, decide_eq_false (by omega), cond_false, decide_eq_false (by omega), cond_false, decide_eq_false (by omega), cond_false, show (4 : Int) = ((4 : Nat) : Int) from rfl, hK2, of1 f hf]
end Go.Ab.T

/- Shown: the laws ShowMade, ShowParts. -/
namespace Go.Ab.T
open Go Go.Ab
set_option linter.unusedVariables false
set_option linter.unusedSimpArgs false
set_option maxRecDepth 20000
theorem Gd.mono {n w n' w' : Nat} {t : Sd} (h : Gd n w t) (hn : n ≤ n') (hw : w ≤ w') : Gd n' w' t := ⟨h.pl, h.sk, by have := h.nd; omega, by have := h.wt; omega⟩
theorem bytes_good {s : List Int} (hs : isSet s) (hr : runsN s ≤ 3) : ∃ t : Sd, Gd 1 29 t ∧ ∀ {R : Type} (K : Int → List Int → List Sd → Option R), yy30 s K = K (kd t) (stt t) (kk t) := by
 by_cases h : s = ZS
 ·exact ⟨noneT, Gd.none _ _ (by omega) (by omega), fun K => by rw [bytes_ok, if_pos h]; rfl⟩
 ·refine ⟨Rose.node (3, s, ()) [], ⟨pl_set h, ⟨hs, trivial⟩, Nat.le_refl _, ?_⟩, fun K => by rw [bytes_ok, if_neg h]; rfl⟩
  show 2 + 9 * runsN s ≤ 29
  omega
theorem prx {R : Type} (l : List Int) (hl : ∀ x ∈ l, 0 ≤ x ∧ x ≤ 255) (hll : l.length ≤ 150) : ∀ (m d kf p : Nat), d + m = 9 → 4000 + m ≤ kf → p ≤ l.length →
  ∃ (t : Sd) (p' : Nat), p ≤ p' ∧ p' ≤ l.length ∧ Gd (2 * (p' - p) + 1) (35 * (p' - p) + 29) t ∧ ∀ K : Int → List Int → List Sd → List Int → Int → Option R, yy17 kf (d : Int) l (p : Int) K = K (kd t) (stt t) (kk t) l (p' : Int)
 | m, d, 0, p, _, h, _ => by omega
 | 0, d, kf + 1, p, hd, hk, hp => by
  obtain ⟨v, p1, hv, a1, a2, a3, a4, hK⟩ := pnum (R := R) 9 (by omega) l hl (by omega) p hp
  obtain ⟨s, p2, s1, s2, s3, s4, hS⟩ := pset (R := R) kf (by omega) l hl (by omega) p1 a2
  obtain ⟨t, g1, g2⟩ := bytes_good s1 s2
  obtain ⟨u, p3, hu, c1, c2, _, _, hK3⟩ := pnum (R := R) 3 (by omega) l hl (by omega) p1 a2
  by_cases hz : l.length ≤ p1 ∨ 0 < v
  ·refine ⟨t, p2, by omega, s4, g1.mono (by omega) (by omega), fun K => ?_⟩
   unfold yy17 yy17_b yy16 yy16_b
   rw [show (9 : Int) = ((9 : Nat) : Int) from rfl, hK]
   have hd8 : decide ((8 : Int) < (d : Int)) = true := decide_eq_true (by omega)
   dsimp only
   rw [hd8]
   by_cases h1 : l.length ≤ p1
   ·rw [decide_eq_true (show (l.length : Int) ≤ (p1 : Int) by omega)]
    simp only [cond_true]
    rw [hS, g2]
   ·rw [decide_eq_false (show ¬ (l.length : Int) ≤ (p1 : Int) by omega), decide_eq_true (show (0 : Int) < (v : Int) by omega)]
    simp only [cond_true, cond_false]
    rw [hS, g2]
  ·have hz1 : ¬ l.length ≤ p1 := fun q => hz (Or.inl q)
   have hz2 : ¬ 0 < v := fun q => hz (Or.inr q)
   by_cases hu0 : u = 0
   ·refine ⟨noneT, p3, by omega, c2, (Gd.none 1 29 (by omega) (by omega)).mono (by omega) (by omega), fun K => ?_⟩
    unfold yy17 yy17_b yy16 yy16_b
    rw [show (9 : Int) = ((9 : Nat) : Int) from rfl, hK]
    have hd8 : decide ((8 : Int) < (d : Int)) = true := decide_eq_true (by omega)
    dsimp only
    rw [hd8, decide_eq_false (show ¬ (l.length : Int) ≤ (p1 : Int) by omega), decide_eq_false (show ¬ (0 : Int) < (v : Int) by omega)]
    simp only [cond_true, cond_false]
    rw [show (3 : Int) = ((3 : Nat) : Int) from rfl, hK3, decide_eq_true (show (u : Int) = 0 by omega)]; rfl
   ·refine ⟨emptyT, p3, by omega, c2, (Gd.empty 1 29 (by omega) (by omega)).mono (by omega) (by omega), fun K => ?_⟩
    unfold yy17 yy17_b yy16 yy16_b
    rw [show (9 : Int) = ((9 : Nat) : Int) from rfl, hK]
    have hd8 : decide ((8 : Int) < (d : Int)) = true := decide_eq_true (by omega)
    dsimp only
    rw [hd8, decide_eq_false (show ¬ (l.length : Int) ≤ (p1 : Int) by omega), decide_eq_false (show ¬ (0 : Int) < (v : Int) by omega)]
    simp only [cond_true, cond_false]
    rw [show (3 : Int) = ((3 : Nat) : Int) from rfl, hK3, decide_eq_false (show ¬ (u : Int) = 0 by omega)]; rfl
 | m + 1, d, kf + 1, p, hd, hk, hp => by
  obtain ⟨v, p1, hv, a1, a2, a3, a4, hK⟩ := pnum (R := R) 9 (by omega) l hl (by omega) p hp
  obtain ⟨s, p2, s1, s2, s3, s4, hS⟩ := pset (R := R) kf (by omega) l hl (by omega) p1 a2
  obtain ⟨t, g1, g2⟩ := bytes_good s1 s2
  obtain ⟨u, p3, hu, c1, c2, _, _, hK3⟩ := pnum (R := R) 3 (by omega) l hl (by omega) p1 a2
  by_cases hleaf : l.length ≤ p1 ∨ v < 3
  ·-- a leaf
   by_cases hz : l.length ≤ p1 ∨ 0 < v
   ·refine ⟨t, p2, by omega, s4, g1.mono (by omega) (by omega), fun K => ?_⟩
    unfold yy17 yy17_b yy16 yy16_b
    rw [show (9 : Int) = ((9 : Nat) : Int) from rfl, hK]
    dsimp only
    rw [show decide ((8 : Int) < (d : Int)) = false from decide_eq_false (by omega)]
    by_cases h1 : l.length ≤ p1
    ·rw [decide_eq_true (show (l.length : Int) ≤ (p1 : Int) by omega)]
     simp only [cond_true]
     rw [hS, g2]
    ·rw [decide_eq_false (show ¬ (l.length : Int) ≤ (p1 : Int) by omega), decide_eq_true (show (0 : Int) < (v : Int) by omega), decide_eq_true (show (v : Int) < 3 by omega)]
     simp only [cond_true, cond_false]
     rw [hS, g2]
   ·have hz1 : ¬ l.length ≤ p1 := fun q => hz (Or.inl q)
    have hz2 : ¬ 0 < v := fun q => hz (Or.inr q)
    by_cases hu0 : u = 0
    ·refine ⟨noneT, p3, by omega, c2, (Gd.none 1 29 (by omega) (by omega)).mono (by omega) (by omega), fun K => ?_⟩
     unfold yy17 yy17_b yy16 yy16_b
     rw [show (9 : Int) = ((9 : Nat) : Int) from rfl, hK]
     dsimp only
     rw [show decide ((8 : Int) < (d : Int)) = false from decide_eq_false (by omega), decide_eq_false (show ¬ (l.length : Int) ≤ (p1 : Int) by omega), decide_eq_false (show ¬ (0 : Int) < (v : Int) by omega), decide_eq_true (show (v : Int) < 3 by omega)]
     simp only [cond_true, cond_false]
     rw [show (3 : Int) = ((3 : Nat) : Int) from rfl, hK3, decide_eq_true (show (u : Int) = 0 by omega)]; rfl
    ·refine ⟨emptyT, p3, by omega, c2, (Gd.empty 1 29 (by omega) (by omega)).mono (by omega) (by omega), fun K => ?_⟩
     unfold yy17 yy17_b yy16 yy16_b
     rw [show (9 : Int) = ((9 : Nat) : Int) from rfl, hK]
     dsimp only
     rw [show decide ((8 : Int) < (d : Int)) = false from decide_eq_false (by omega), decide_eq_false (show ¬ (l.length : Int) ≤ (p1 : Int) by omega), decide_eq_false (show ¬ (0 : Int) < (v : Int) by omega), decide_eq_true (show (v : Int) < 3 by omega)]
     simp only [cond_true, cond_false]
     rw [show (3 : Int) = ((3 : Nat) : Int) from rfl, hK3, decide_eq_false (show ¬ (u : Int) = 0 by omega)]; rfl
  ·have hl1 : p1 < l.length := Nat.lt_of_not_le fun q => hleaf (Or.inl q)
   have hv3 : 3 ≤ v := Nat.le_of_not_lt fun q => hleaf (Or.inr q)
   have hp1 : p1 = p + 1 := a3 (by omega)
   obtain ⟨x, q1, x1, x2, gx, hX⟩ := prx (R := R) l hl hll m (d + 1) kf p1 (by omega) (by omega) a2
   have hfx : Fit 300 x := (gx.mono (n' := 300) (w' := 35 * (q1 - p1) + 29) (by omega) (Nat.le_refl _)).fit (by omega)
   have hw : IntKind.i64.wrap ((d : Int) + 1) = ((d + 1 : Nat) : Int) := wi1s d (by omega)
   have hd8 : decide ((8 : Int) < (d : Int)) = false := decide_eq_false (by omega)
   have ho : decide ((l.length : Int) ≤ (p1 : Int)) = false := decide_eq_false (by omega)
   have hv3' : decide ((v : Int) < 3) = false := decide_eq_false (by omega)
   by_cases h8 : v = 8
   ·subst h8
    obtain ⟨kf, rfl⟩ : ∃ k', kf = k' + 2 := ⟨kf - 2, by omega⟩
    refine ⟨starT x, q1, by omega, x2, (star_good gx hfx (by omega) (by omega)).mono (by omega) (by omega), fun K => ?_⟩
    unfold yy17 yy17_b yy16 yy16_b
    rw [show (9 : Int) = ((9 : Nat) : Int) from rfl, hK]
    dsimp only
    rw [ho, hd8, hv3', hw]
    simp only [cond_false]
    rw [hX]
    rw [show decide (((8 : Nat) : Int) = 3) = false from rfl, show decide (((8 : Nat) : Int) = 4) = false from rfl, show decide (((8 : Nat) : Int) = 5) = false from rfl, show decide (((8 : Nat) : Int) = 6) = false from rfl, show decide (((8 : Nat) : Int) = 7) = false from rfl]
    simp only [cond_false]
    rw [star_ok kf 300 (by omega) x hfx gx.pl (by have := gx.nd; omega)]
   obtain ⟨y, q2, y1, y2, gy, hY⟩ := prx (R := R) l hl hll m (d + 1) kf q1 (by omega) (by omega) x2
   have hfy : Fit 300 y := (gy.mono (n' := 300) (w' := 35 * (q2 - q1) + 29) (by omega) (Nat.le_refl _)).fit (by omega)
   have hm : ∀ z ∈ [x, y], plT z = true ∧ setsOk z := fun z hz => by
    simp only [List.mem_cons, List.not_mem_nil, or_false] at hz
    rcases hz with rfl | rfl
    ·exact ⟨gx.pl, gx.sk⟩
    ·exact ⟨gy.pl, gy.sk⟩
   have hfm : ∀ z ∈ [x, y], Fit 300 z := fun z hz => by
    simp only [List.mem_cons, List.not_mem_nil, or_false] at hz
    rcases hz with rfl | rfl
    ·exact hfx
    ·exact hfy
   have n1 := gx.nd; have n2 := gy.nd; have w1 := gx.wt; have w2 := gy.wt
   have hnl : nodL [x, y] = nod x + (nod y + 0) := rfl
   have hwl : wtL [x, y] = (wtT x + 2) + ((wtT y + 2) + 0) := rfl
   by_cases hcat : v = 3 ∨ v = 4 ∨ v = 5
   ·refine ⟨catT [x, y], q2, by omega, y2, (cat_good hm).mono (by omega) (by omega), fun K => ?_⟩
    unfold yy17 yy17_b yy16 yy16_b
    rw [show (9 : Int) = ((9 : Nat) : Int) from rfl, hK]
    dsimp only
    rw [ho, hd8, hv3', hw]
    simp only [cond_false]
    rw [hX]
    have fin : yy17 kf ((d + 1 : Nat) : Int) l (q1 : Int) (fun v38 v39 v40 v41 v42 => yy31 kf [Rose.node (kd x, stt x, ()) (kk x), Rose.node (v38, v39, ()) v40] fun v43 v44 v45 => K v43 v44 v45 v41 v42) = K (kd (catT [x, y])) (stt (catT [x, y])) (kk (catT [x, y])) l (q2 : Int) := by
     rw [hY, eta, eta, cat_ok kf 300 (by omega) [x, y] (by omega) hfm]
    rcases hcat with rfl | rfl | rfl <;> exact fin
   ·have h67 : v = 6 ∨ v = 7 := by omega
    refine ⟨altT [x, y], q2, by omega, y2, (alt_good hm hfm).1.mono (by omega) (by omega), fun K => ?_⟩
    unfold yy17 yy17_b yy16 yy16_b
    rw [show (9 : Int) = ((9 : Nat) : Int) from rfl, hK]
    dsimp only
    rw [ho, hd8, hv3', hw]
    simp only [cond_false]
    rw [hX]
    have fin : yy17 kf ((d + 1 : Nat) : Int) l (q1 : Int) (fun v47 v48 v49 v50 v51 => yy29 kf [Rose.node (kd x, stt x, ()) (kk x), Rose.node (v47, v48, ()) v49] fun v52 v53 v54 => K v52 v53 v54 v50 v51) = K (kd (altT [x, y])) (stt (altT [x, y])) (kk (altT [x, y])) l (q2 : Int) := by
     rw [hY, eta, eta, alt_ok kf 300 (by omega) [x, y] (by omega) hfm]
    rcases h67 with rfl | rfl <;> exact fin
end Go.Ab.T
