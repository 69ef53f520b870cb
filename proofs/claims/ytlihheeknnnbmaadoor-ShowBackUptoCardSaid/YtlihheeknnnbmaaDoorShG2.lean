/- ShG2: a part of the proofs of this seat's statements. -/
import Derived.Test.YtlihheeknnnbmaaDoorShG1
/- Shown: trees, and how they are held against one another. -/
namespace Go.Ab.T
open Go Go.Ab
set_option linter.unusedVariables false
set_option linter.unusedSimpArgs false
set_option maxRecDepth 20000
theorem gdt {R : Type} (x : Option R) : gd true x = x := rfl
abbrev DD : Sd := Rose.node ((0 : Int), (List.replicate 4 (0 : Int), ())) []
abbrev kd (t : Sd) : Int := (Rose.lab t).1
abbrev stt (t : Sd) : List Int := (Rose.lab t).2.1
abbrev kk (t : Sd) : List Sd := Rose.kids t
theorem eta (t : Sd) : Rose.node (kd t, stt t, ()) (kk t) = t := by
  obtain ⟨⟨k, s, u⟩, ks⟩ := t; rfl
mutual
def dep : Sd → Nat
  | .node _ ks => depL ks + 1
def depL : List Sd → Nat
  | [] => 0
  | x :: r => max (dep x) (depL r)
end
mutual
def nod : Sd → Nat
  | .node _ ks => nodL ks + 1
def nodL : List Sd → Nat
  | [] => 0
  | x :: r => nod x + nodL r
end
mutual
def setsOk : Sd → Prop
  | .node l ks => isSet l.2.1 ∧ setsOkL ks
def setsOkL : List Sd → Prop
  | [] => True
  | x :: r => setsOk x ∧ setsOkL r
end
theorem setsOkL_iff : ∀ {l : List Sd}, setsOkL l ↔ ∀ x ∈ l, setsOk x
  | [] => by simp [setsOkL]
  | x :: r => by simp [setsOkL, setsOkL_iff (l := r)]
theorem setsOk_iff {t : Sd} : setsOk t ↔ isSet (stt t) ∧ ∀ x ∈ kk t, setsOk x := by
  obtain ⟨⟨k, s, u⟩, ks⟩ := t
  show isSet s ∧ setsOkL ks ↔ _
  rw [setsOkL_iff]; rfl
theorem dep_pos (t : Sd) : 1 ≤ dep t := by obtain ⟨l, ks⟩ := t; unfold dep; omega
theorem nod_pos (t : Sd) : 1 ≤ nod t := by obtain ⟨l, ks⟩ := t; unfold nod; omega
theorem depL_mem : ∀ {l : List Sd} {x : Sd}, x ∈ l → dep x ≤ depL l
  | y :: r, x, h => by
    unfold depL
    rcases List.mem_cons.1 h with rfl | h
    · omega
    · have := depL_mem h; omega
theorem nodL_mem : ∀ {l : List Sd} {x : Sd}, x ∈ l → nod x ≤ nodL l
  | y :: r, x, h => by
    unfold nodL
    rcases List.mem_cons.1 h with rfl | h
    · omega
    · have := nodL_mem h; omega
theorem nodL_len : ∀ l : List Sd, l.length ≤ nodL l
  | [] => Nat.zero_le _
  | x :: r => by
    have := nodL_len r; have := nod_pos x
    unfold nodL; simp only [List.length_cons]; omega
theorem dep_eq (t : Sd) : dep t = depL (kk t) + 1 := by obtain ⟨l, ks⟩ := t; rfl
theorem nod_eq (t : Sd) : nod t = nodL (kk t) + 1 := by obtain ⟨l, ks⟩ := t; rfl
theorem dep_kid {t x : Sd} (h : x ∈ kk t) : dep x + 1 ≤ dep t := by rw [dep_eq t]; have := depL_mem h; omega
theorem nod_kid {t x : Sd} (h : x ∈ kk t) : nod x + 1 ≤ nod t := by rw [nod_eq t]; have := nodL_mem h; omega
theorem kk_len (t : Sd) : (kk t).length + 1 ≤ nod t := by rw [nod_eq t]; have := nodL_len (kk t); omega
theorem nodL_append : ∀ a b : List Sd, nodL (a ++ b) = nodL a + nodL b
  | [], b => by simp [nodL]
  | x :: a, b => by simp only [List.cons_append, nodL, nodL_append a b]; omega
open Classical in
noncomputable def lessS (s t : List Int) : Bool := decide (ahead s t)
theorem lessS_iff {s t : List Int} : lessS s t = true ↔ ahead s t := by unfold lessS; simp
theorem ahead_asymm {s t : List Int} (h : ahead s t) : ¬ ahead t s := by
  obtain ⟨b, hb, h1, h2, h3⟩ := h
  rintro ⟨c, hc, g1, g2, g3⟩
  rcases Nat.lt_trichotomy b c with h | h | h
  · have := g3 b h; rw [h1, h2] at this; cases this
  · subst h; rw [h1] at g2; cases g2
  · have := h3 c h; rw [g1, g2] at this; cases this
theorem ahead_trans {s t u : List Int} (h : ahead s t) (g : ahead t u) : ahead s u := by
  obtain ⟨b, hb, h1, h2, h3⟩ := h
  obtain ⟨c, hc, g1, g2, g3⟩ := g
  rcases Nat.lt_trichotomy b c with h | h | h
  · exact ⟨b, hb, h1, by rw [← g3 b h]; exact h2, fun d hd => by rw [h3 d hd, g3 d (by omega)]⟩
  · subst h; rw [h2] at g1; cases g1
  · exact ⟨c, hc, by rw [h3 c h]; exact g1, g2, fun d hd => by rw [h3 d (by omega), g3 d hd]⟩
theorem ahead_total {s t : List Int} (hs : isSet s) (ht : isSet t) (h : s ≠ t) : ahead s t ∨ ahead t s := by
  have hex : ∃ b, b < 256 ∧ mem s b ≠ mem t b := by
    refine Classical.byContradiction fun hno => h ?_
    rw [← setOf_mem hs, ← setOf_mem ht]
    refine setOf_congr fun b hb => ?_
    exact Classical.byContradiction fun hne => hno ⟨b, hb, hne⟩
  obtain ⟨b, hb, hne⟩ := hex
  have hmin : ∀ n, n < 256 → mem s n ≠ mem t n → ∃ b, b < 256 ∧ mem s b ≠ mem t b ∧ ∀ c, c < b → mem s c = mem t c := by
    intro n
    induction n using Nat.strongRecOn with
    | _ n ih =>
      intro hn hne
      by_cases hex : ∃ m, m < n ∧ mem s m ≠ mem t m
      · obtain ⟨m, hm, hmn⟩ := hex
        exact ih m hm (by omega) hmn
      · exact ⟨n, hn, hne, fun c hc => Classical.byContradiction fun q => hex ⟨c, hc, q⟩⟩
  obtain ⟨b, hb, hne, hlow⟩ := hmin b hb hne
  cases h1 : mem s b with
  | true => exact Or.inl ⟨b, hb, h1, by rw [h1] at hne; cases h2 : mem t b with
    | true => rw [h2] at hne; exact absurd rfl hne
    | false => rfl, hlow⟩
  | false => exact Or.inr ⟨b, hb, by rw [h1] at hne; cases h2 : mem t b with
    | true => rfl
    | false => rw [h2] at hne; exact absurd rfl hne, h1, fun c hc => (hlow c hc).symm⟩
mutual
noncomputable def cmpT : Sd → Sd → Int
  | .node l ks, .node m js =>
    if l.1 < m.1 then -1 else if m.1 < l.1 then 1
    else if l.1 = 3 ∧ l.2.1 ≠ m.2.1 then (if lessS l.2.1 m.2.1 = true then -1 else 1)
    else cmpL ks js
noncomputable def cmpL : List Sd → List Sd → Int
  | [], [] => 0
  | [], _ :: _ => -1
  | _ :: _, [] => 1
  | x :: r, y :: q => if cmpT x y = 0 then cmpL r q else cmpT x y
end
theorem cmpT_eq (t u : Sd) : cmpT t u = if kd t < kd u then -1 else if kd u < kd t then 1
    else if kd t = 3 ∧ stt t ≠ stt u then (if lessS (stt t) (stt u) = true then -1 else 1)
    else cmpL (kk t) (kk u) := by
  obtain ⟨l, ks⟩ := t
  obtain ⟨m, js⟩ := u
  rfl
theorem cmpL_cons (x y : Sd) (r q : List Sd) : cmpL (x :: r) (y :: q) = if cmpT x y = 0 then cmpL r q else cmpT x y := rfl
theorem getD_drop {α : Type} (l : List α) (i : Nat) (h : i < l.length) (d : α) : l.drop i = l.getD i d :: l.drop (i + 1) := by
  rw [List.drop_eq_getElem_cons h]
  congr 1
  rw [List.getD_eq_getElem?_getD, List.getElem?_eq_getElem h]; rfl
theorem cfl2 {R : Type} (c : Int → List Int → List Sd → Int → List Int → List Sd → (Int → Option R) → Option R) (kf : Nat) (ks js : List Sd) (hl : ks.length ≤ 100000)
    (hc : ∀ x ∈ ks, ∀ y ∈ js, ∀ K : Int → Option R, c (kd x) (stt x) (kk x) (kd y) (stt y) (kk y) K = K (cmpT x y)) (K : Int → Option R) :
    ∀ (m k i : Nat), i + m = ks.length → m < k → i ≤ js.length →
    yy65_l2 c kf k ks js ks (ks.length : Int) (fun _ _ v => K v) (fun v12 v13 => bif decide ((v12.length : Int) < (v13.length : Int)) then (K (-1)) else (K 0)) (i : Int) = K (cmpL (ks.drop i) (js.drop i))
  | m, 0, i, _, h, _ => by omega
  | 0, k + 1, i, hi, _, hj => by
    unfold yy65_l2 yy65_l2_b
    rw [decide_eq_false (by omega), cond_false, List.drop_eq_nil_of_le (by omega)]
    dsimp only
    by_cases h : ks.length < js.length
    · rw [decide_eq_true (by omega), cond_true, getD_drop js i (by omega) DD]; rfl
    · rw [decide_eq_false (by omega), cond_false, List.drop_eq_nil_of_le (by omega)]; rfl
  | m + 1, k + 1, i, hi, hk, hj => by
    unfold yy65_l2 yy65_l2_b
    have g0 : decide (0 ≤ (i : Int)) = true := decide_eq_true (by omega)
    have g1 : decide ((i : Int) < (ks.length : Int)) = true := decide_eq_true (by omega)
    rw [getD_drop ks i (by omega) DD]
    simp only [g0, g1, gdt, cond_true]
    by_cases h : js.length ≤ i
    · rw [decide_eq_true (by omega), cond_true, List.drop_eq_nil_of_le h]; rfl
    · have g2 : decide ((i : Int) < (js.length : Int)) = true := decide_eq_true (by omega)
      rw [decide_eq_false (by omega), cond_false, getD_drop js i (by omega) DD, cmpL_cons]
      simp only [g2, gdt]
      rw [show Int.toNat (i : Int) = i from rfl]
      refine (hc _ (getD_mem ks i (by omega) DD) _ (getD_mem js i (by omega) DD) _).trans ?_
      by_cases h0 : cmpT (ks.getD i DD) (js.getD i DD) = 0
      · rw [decide_eq_true h0, Bool.not_true, cond_false, if_pos h0, wi1s i (by omega)]
        exact cfl2 c kf ks js hl hc K m k (i + 1) (by omega) (by omega) (by omega)
      · rw [decide_eq_false h0, Bool.not_false, cond_true, if_neg h0]
theorem rxcmp_ok {R : Type} : ∀ (n : Nat) (t u : Sd) (kf : Nat), dep t ≤ n → 3000 + n ≤ kf → nod t ≤ 2000 → setsOk t → setsOk u → ∀ K : Int → Option R, yy52 kf (kd t) (stt t) (kk t) (kd u) (stt u) (kk u) K = K (cmpT t u)
  | 0, t, u, kf, h, _, _, _, _, K => by have := dep_pos t; omega
  | n + 1, t, u, 0, _, h, _, _, _, K => by omega
  | n + 1, t, u, kf + 1, hd, hk, hn, hs, hu, K => by
    have ht := setsOk_iff.1 hs
    have hu' := setsOk_iff.1 hu
    rw [cmpT_eq]
    unfold yy52 yy52_b yy3 yy3_b yy4 yy4_b
    simp only [decide_true, Bool.not_true, cond_false]
    by_cases h1 : kd t < kd u
    · rw [decide_eq_true h1, cond_true, if_pos h1]; rfl
    rw [decide_eq_false h1, cond_false, if_neg h1]
    by_cases h2 : kd u < kd t
    · rw [decide_eq_true h2, cond_true, if_pos h2]; rfl
    rw [decide_eq_false h2, cond_false, if_neg h2]
    have hrec : yy65 (yy52 kf) kf (kk t) (kk u) (fun v10 => K v10) = K (cmpL (kk t) (kk u)) := by
      unfold yy65 yy65_b
      have hlen := kk_len t
      refine cfl2 (yy52 kf) kf (kk t) (kk u) (by omega) (fun x hx y hy K => rxcmp_ok n x y kf (by have := dep_kid hx; omega) (by omega) (by have := nod_kid hx; omega) (ht.2 x hx) (hu'.2 y hy) K) K (kk t).length kf 0 (by omega) (by omega) (by omega)
    by_cases h3 : kd t = 3
    · rw [decide_eq_true h3, cond_true]
      by_cases h4 : stt t = stt u
      · rw [decide_eq_true h4, Bool.not_true, cond_false, if_neg (fun q => q.2 h4), hrec]
      · rw [decide_eq_false h4, Bool.not_false, cond_true, if_pos ⟨h3, h4⟩]
        obtain ⟨r, hr1, hr2⟩ := less_ok kf (by omega) ht.1 hu'.1
        rw [hr2]
        cases r with
        | true => rw [cond_true, if_pos (lessS_iff.2 (hr1.1 rfl))]
        | false => rw [cond_false, if_neg (fun q => by have := hr1.2 (lessS_iff.1 q); cases this)]
    · rw [decide_eq_false h3, cond_false, if_neg (fun q => h3 q.1), hrec]
theorem rcl10 {R : Type} (c : Int → List Int → List Sd → Int → List Int → List Sd → (Int → Option R) → Option R) (kf : Nat) (k0 k1 : Int) (s0 s1 : List Int) (ks js : List Sd) (hl : ks.length ≤ 100000)
    (hc : ∀ x ∈ ks, ∀ y ∈ js, ∀ K : Int → Option R, c (kd x) (stt x) (kk x) (kd y) (stt y) (kk y) K = K (cmpT x y)) (K : Int → Option R) :
    ∀ (m k i : Nat), i + m = ks.length → m < k → i ≤ js.length →
    yy25_l10 c kf k k0 s0 ks k1 s1 js (fun v17 _ _ _ _ _ _ => K v17) (fun _ _ v26 _ _ v29 => bif decide ((v26.length : Int) < (v29.length : Int)) then (K (-1)) else (bif decide ((v29.length : Int) < (v26.length : Int)) then (K 1) else (K 0))) (i : Int) = K (cmpL (ks.drop i) (js.drop i))
  | m, 0, i, _, h, _ => by omega
  | 0, k + 1, i, hi, _, hj => by
    unfold yy25_l10 yy25_l10_b
    rw [decide_eq_false (by omega), cond_false, List.drop_eq_nil_of_le (by omega)]
    dsimp only
    by_cases h : ks.length < js.length
    · rw [decide_eq_true (by omega), cond_true, getD_drop js i (by omega) DD]; rfl
    · rw [decide_eq_false (by omega), cond_false, decide_eq_false (by omega), cond_false, List.drop_eq_nil_of_le (by omega)]; rfl
  | m + 1, k + 1, i, hi, hk, hj => by
    unfold yy25_l10 yy25_l10_b
    have g0 : decide (0 ≤ (i : Int)) = true := decide_eq_true (by omega)
    have g1 : decide ((i : Int) < (ks.length : Int)) = true := decide_eq_true (by omega)
    rw [getD_drop ks i (by omega) DD]
    simp only [g0, g1, gdt, cond_true]
    by_cases h : js.length ≤ i
    · rw [decide_eq_false (by omega), cond_false, decide_eq_false (by omega), cond_false, decide_eq_true (by omega), cond_true, List.drop_eq_nil_of_le h]; rfl
    · have g2 : decide ((i : Int) < (js.length : Int)) = true := decide_eq_true (by omega)
      rw [getD_drop js i (by omega) DD, cmpL_cons]
      simp only [g2, gdt, cond_true]
      rw [show Int.toNat (i : Int) = i from rfl]
      refine (hc _ (getD_mem ks i (by omega) DD) _ (getD_mem js i (by omega) DD) _).trans ?_
      by_cases h0 : cmpT (ks.getD i DD) (js.getD i DD) = 0
      · rw [decide_eq_true h0, Bool.not_true, cond_false, if_pos h0, wi1s i (by omega)]
        exact rcl10 c kf k0 k1 s0 s1 ks js hl hc K m k (i + 1) (by omega) (by omega) (by omega)
      · rw [decide_eq_false h0, Bool.not_false, cond_true, if_neg h0]
theorem rcmp_ok {R : Type} : ∀ (n : Nat) (t u : Sd) (kf : Nat), dep t ≤ n → 3000 + n ≤ kf → nod t ≤ 2000 → setsOk t → setsOk u → ∀ K : Int → Option R, yy25 kf (kd t) (stt t) (kk t) (kd u) (stt u) (kk u) K = K (cmpT t u)
  | 0, t, u, kf, h, _, _, _, _, K => by have := dep_pos t; omega
  | n + 1, t, u, 0, _, h, _, _, _, K => by omega
  | n + 1, t, u, kf + 1, hd, hk, hn, hs, hu, K => by
    have ht := setsOk_iff.1 hs
    have hu' := setsOk_iff.1 hu
    rw [cmpT_eq]
    unfold yy25 yy25_b
    dsimp only
    by_cases h1 : kd t < kd u
    · rw [decide_eq_false (by omega), Bool.not_false, cond_true, decide_eq_true h1, cond_true, if_pos h1]
    rw [if_neg h1]
    by_cases h2 : kd u < kd t
    · rw [decide_eq_false (by omega), Bool.not_false, cond_true, decide_eq_false h1, cond_false, if_pos h2]
    rw [if_neg h2, decide_eq_true (by omega : kd t = kd u), Bool.not_true, cond_false]
    have hrec := rcl10 (yy25 kf) kf (kd t) (kd u) (stt t) (stt u) (kk t) (kk u) (by have := kk_len t; omega) (fun x hx y hy K => rcmp_ok n x y kf (by have := dep_kid hx; omega) (by omega) (by have := nod_kid hx; omega) (ht.2 x hx) (hu'.2 y hy) K) K (kk t).length kf 0 (by omega) (by have := kk_len t; omega) (by omega)
    by_cases h3 : kd t = 3
    · rw [decide_eq_true h3, cond_true]
      by_cases h4 : stt t = stt u
      · rw [decide_eq_true h4, Bool.not_true, cond_false, if_neg (fun q => q.2 h4)]; exact hrec
      · rw [decide_eq_false h4, Bool.not_false, cond_true, if_pos ⟨h3, h4⟩]
        obtain ⟨r, hr1, hr2⟩ := rless_s kf (by omega) (mem (stt t)) (mem (stt u))
        rw [setOf_mem ht.1, setOf_mem hu'.1] at hr2
        have hr1 : r = true ↔ ahead (stt t) (stt u) := hr1
        rw [hr2]
        cases r with
        | true => rw [cond_true, if_pos (lessS_iff.2 (hr1.1 rfl))]
        | false => rw [cond_false, if_neg (fun q => by have := hr1.2 (lessS_iff.1 q); cases this)]
    · rw [decide_eq_false h3, cond_false, cond_false, if_neg (fun q => h3 q.1)]; exact hrec
end Go.Ab.T

/- Shown: the order of trees. -/
namespace Go.Ab.T
open Go Go.Ab
set_option linter.unusedVariables false
set_option linter.unusedSimpArgs false
set_option maxRecDepth 20000
def dif (t u : Sd) : Prop := kd t = 3 ∧ stt t ≠ stt u
theorem cmp_m1 {t u : Sd} : cmpT t u = -1 ↔ kd t < kd u ∨ (kd t = kd u ∧ ((dif t u ∧ ahead (stt t) (stt u)) ∨ (¬ dif t u ∧ cmpL (kk t) (kk u) = -1))) := by
  rw [cmpT_eq]
  by_cases h1 : kd t < kd u
  · rw [if_pos h1]; exact ⟨fun _ => Or.inl h1, fun _ => rfl⟩
  rw [if_neg h1]
  by_cases h2 : kd u < kd t
  · rw [if_pos h2]
    refine ⟨fun h => absurd h (by omega), ?_⟩
    rintro (h | ⟨h, _⟩) <;> omega
  rw [if_neg h2]
  have he : kd t = kd u := by omega
  by_cases h3 : kd t = 3 ∧ stt t ≠ stt u
  · rw [if_pos h3]
    by_cases h4 : lessS (stt t) (stt u) = true
    · rw [if_pos h4]; exact ⟨fun _ => Or.inr ⟨he, Or.inl ⟨h3, lessS_iff.1 h4⟩⟩, fun _ => rfl⟩
    · rw [if_neg h4]
      refine ⟨fun h => absurd h (by omega), ?_⟩
      rintro (h | ⟨_, ⟨_, h⟩ | ⟨h, _⟩⟩)
      · exact absurd h h1
      · exact absurd (lessS_iff.2 h) h4
      · exact absurd h3 h
  · rw [if_neg h3]
    refine ⟨fun h => Or.inr ⟨he, Or.inr ⟨h3, h⟩⟩, ?_⟩
    rintro (h | ⟨_, ⟨h, _⟩ | ⟨_, h⟩⟩)
    · exact absurd h h1
    · exact absurd h h3
    · exact h
theorem cmp_0 {t u : Sd} : cmpT t u = 0 ↔ kd t = kd u ∧ ¬ dif t u ∧ cmpL (kk t) (kk u) = 0 := by
  rw [cmpT_eq]
  by_cases h1 : kd t < kd u
  · rw [if_pos h1]; exact ⟨fun h => absurd h (by omega), fun h => by omega⟩
  rw [if_neg h1]
  by_cases h2 : kd u < kd t
  · rw [if_pos h2]; exact ⟨fun h => absurd h (by omega), fun h => by omega⟩
  rw [if_neg h2]
  have he : kd t = kd u := by omega
  by_cases h3 : kd t = 3 ∧ stt t ≠ stt u
  · rw [if_pos h3]
    refine ⟨fun h => ?_, fun h => absurd h3 h.2.1⟩
    split at h <;> omega
  · rw [if_neg h3]; exact ⟨fun h => ⟨he, h3, h⟩, fun h => h.2.2⟩
theorem cmp_vals : ∀ (n : Nat) (t u : Sd), dep t ≤ n → cmpT t u = -1 ∨ cmpT t u = 0 ∨ cmpT t u = 1
  | 0, t, u, h => by have := dep_pos t; omega
  | n + 1, t, u, h => by
    have key : ∀ l m : List Sd, (∀ x ∈ l, dep x ≤ n) → cmpL l m = -1 ∨ cmpL l m = 0 ∨ cmpL l m = 1 := by
      intro l
      induction l with
      | nil => intro m _; cases m; exact Or.inr (Or.inl rfl); exact Or.inl rfl
      | cons x r ih =>
        intro m hx
        cases m with
        | nil => exact Or.inr (Or.inr rfl)
        | cons y q =>
          rw [cmpL_cons]
          by_cases h0 : cmpT x y = 0
          · rw [if_pos h0]; exact ih q fun z hz => hx z (by simp [hz])
          · rw [if_neg h0]; exact cmp_vals n x y (hx x (by simp))
    rw [cmpT_eq]
    split
    · exact Or.inl rfl
    split
    · exact Or.inr (Or.inr rfl)
    split
    · split
      · exact Or.inl rfl
      · exact Or.inr (Or.inr rfl)
    · exact key _ _ fun x hx => by have := dep_kid hx; omega
theorem cmp_anti : ∀ (n : Nat) (t u : Sd), dep t ≤ n → setsOk t → setsOk u → cmpT u t = -(cmpT t u)
  | 0, t, u, h, _, _ => by have := dep_pos t; omega
  | n + 1, t, u, h, ht, hu => by
    have ht' := setsOk_iff.1 ht
    have hu' := setsOk_iff.1 hu
    have key : ∀ l m : List Sd, (∀ x ∈ l, dep x ≤ n ∧ setsOk x) → (∀ x ∈ m, setsOk x) → cmpL m l = -(cmpL l m) := by
      intro l
      induction l with
      | nil => intro m _ _; cases m; rfl; rfl
      | cons x r ih =>
        intro m hx hm
        cases m with
        | nil => rfl
        | cons y q =>
          rw [cmpL_cons, cmpL_cons, cmp_anti n x y (hx x (by simp)).1 (hx x (by simp)).2 (hm y (by simp))]
          by_cases h0 : cmpT x y = 0
          · rw [if_pos h0, if_pos (by omega)]; exact ih q (fun z hz => hx z (by simp [hz])) fun z hz => hm z (by simp [hz])
          · rw [if_neg h0, if_neg (by omega)]
    rw [cmpT_eq, cmpT_eq]
    by_cases h1 : kd t < kd u
    · rw [if_neg (by omega), if_pos h1, if_pos h1]; rfl
    by_cases h2 : kd u < kd t
    · rw [if_pos h2, if_neg (by omega), if_pos h2]
    rw [if_neg h2, if_neg h1, if_neg h1, if_neg h2]
    by_cases h3 : kd t = 3 ∧ stt t ≠ stt u
    · rw [if_pos h3, if_pos ⟨by omega, fun e => h3.2 e.symm⟩]
      rcases ahead_total ht'.1 hu'.1 h3.2 with g | g
      · rw [if_neg (fun q => ahead_asymm g (lessS_iff.1 q)), if_pos (lessS_iff.2 g)]; rfl
      · rw [if_pos (lessS_iff.2 g), if_neg (fun q => ahead_asymm g (lessS_iff.1 q))]
    · rw [if_neg h3, if_neg (fun q => h3 ⟨by omega, fun e => q.2 e.symm⟩)]
      exact key _ _ (fun x hx => ⟨by have := dep_kid hx; omega, ht'.2 x hx⟩) hu'.2
theorem cmp_trans : ∀ (n : Nat) (t u v : Sd), dep t ≤ n → setsOk t → setsOk u → setsOk v →
    (cmpT t u = 0 → cmpT t v = cmpT u v) ∧ (cmpT u v = 0 → cmpT t u = cmpT t v) ∧ (cmpT t u = -1 → cmpT u v = -1 → cmpT t v = -1)
  | 0, t, u, v, h, _, _, _ => by have := dep_pos t; omega
  | n + 1, t, u, v, h, ht, hu, hv => by
    have ht' := setsOk_iff.1 ht
    have hu' := setsOk_iff.1 hu
    have hv' := setsOk_iff.1 hv
    have key : ∀ l m o : List Sd, (∀ x ∈ l, dep x ≤ n ∧ setsOk x) → (∀ x ∈ m, setsOk x) → (∀ x ∈ o, setsOk x) →
        (cmpL l m = 0 → cmpL l o = cmpL m o) ∧ (cmpL m o = 0 → cmpL l m = cmpL l o) ∧ (cmpL l m = -1 → cmpL m o = -1 → cmpL l o = -1) := by
      intro l
      induction l with
      | nil =>
        intro m o _ _ _
        cases m with
        | nil => exact ⟨fun _ => rfl, fun h => h.symm, fun h _ => absurd (show (0 : Int) = -1 from h) (by decide)⟩
        | cons y q =>
          cases o with
          | nil => exact ⟨fun h => absurd (show (-1 : Int) = 0 from h) (by decide), fun h => absurd (show (1 : Int) = 0 from h) (by decide), fun _ h => absurd (show (1 : Int) = -1 from h) (by decide)⟩
          | cons z p => exact ⟨fun h => absurd (show (-1 : Int) = 0 from h) (by decide), fun _ => rfl, fun _ _ => rfl⟩
      | cons x r ih =>
        intro m o hx hm ho
        cases m with
        | nil =>
          cases o with
          | nil => exact ⟨fun h => absurd (show (1 : Int) = 0 from h) (by decide), fun _ => rfl, fun h _ => absurd (show (1 : Int) = -1 from h) (by decide)⟩
          | cons z p => exact ⟨fun h => absurd (show (1 : Int) = 0 from h) (by decide), fun h => absurd (show (-1 : Int) = 0 from h) (by decide), fun h _ => absurd (show (1 : Int) = -1 from h) (by decide)⟩
        | cons y q =>
          cases o with
          | nil =>
            exact ⟨fun _ => rfl, fun h => absurd (show (1 : Int) = 0 from h) (by decide), fun _ h => absurd (show (1 : Int) = -1 from h) (by decide)⟩
          | cons z p =>
            obtain ⟨a1, a2, a3⟩ := cmp_trans n x y z (hx x (by simp)).1 (hx x (by simp)).2 (hm y (by simp)) (ho z (by simp))
            obtain ⟨b1, b2, b3⟩ := ih q p (fun w hw => hx w (by simp [hw])) (fun w hw => hm w (by simp [hw])) fun w hw => ho w (by simp [hw])
            rw [cmpL_cons, cmpL_cons, cmpL_cons]
            refine ⟨fun h => ?_, fun h => ?_, fun h h' => ?_⟩
            · by_cases h0 : cmpT x y = 0
              · rw [if_pos h0] at h
                rw [a1 h0, b1 h]
              · rw [if_neg h0] at h; exact absurd h h0
            · by_cases h0 : cmpT y z = 0
              · rw [if_pos h0] at h
                rw [a2 h0, b2 h]
              · rw [if_neg h0] at h; exact absurd h h0
            · by_cases h0 : cmpT x y = 0
              · rw [if_pos h0] at h
                rw [a1 h0]
                by_cases h1 : cmpT y z = 0
                · rw [if_pos h1] at h' ⊢; exact b3 h h'
                · rw [if_neg h1] at h' ⊢; exact h'
              · rw [if_neg h0] at h
                by_cases h1 : cmpT y z = 0
                · have := a2 h1
                  rw [← this, if_neg h0]; exact h
                · rw [if_neg h1] at h'
                  have := a3 h h'
                  rw [this, if_neg (by decide)]
    obtain ⟨k1, k2, k3⟩ := key (kk t) (kk u) (kk v) (fun x hx => ⟨by have := dep_kid hx; omega, ht'.2 x hx⟩) hu'.2 hv'.2
    refine ⟨fun h => ?_, fun h => ?_, fun h h' => ?_⟩
    · obtain ⟨e1, e2, e3⟩ := cmp_0.1 h
      rw [cmpT_eq t v, cmpT_eq u v, e1, k1 e3]
      by_cases h3 : kd u = 3
      · have : stt t = stt u := Classical.byContradiction fun q => e2 ⟨by omega, q⟩
        rw [this]
      · have e : ∀ s : List Int, (kd u = 3 ∧ s ≠ stt v) = False := fun s => by simp [h3]
        simp only [e, if_false]
    · obtain ⟨e1, e2, e3⟩ := cmp_0.1 h
      rw [cmpT_eq t u, cmpT_eq t v, e1, k2 e3]
      by_cases h3 : kd u = 3
      · have : stt u = stt v := Classical.byContradiction fun q => e2 ⟨by omega, q⟩
        rw [this]
      · by_cases h4 : kd t = 3
        · by_cases q1 : kd t < kd v
          · rw [if_pos q1, if_pos q1]
          · by_cases q2 : kd v < kd t
            · rw [if_neg q1, if_neg q1, if_pos q2, if_pos q2]
            · omega
        · have e : ∀ s : List Int, (kd t = 3 ∧ stt t ≠ s) = False := fun s => by simp [h4]
          simp only [e, if_false]
    · rw [cmp_m1] at h h' ⊢
      rcases h with h | ⟨e1, h⟩
      · rcases h' with h' | ⟨e2, h'⟩
        · left; omega
        · left; omega
      · rcases h' with h' | ⟨e2, h'⟩
        · left; omega
        · right
          refine ⟨by omega, ?_⟩
          rcases h with ⟨d1, g1⟩ | ⟨d1, g1⟩
          · rcases h' with ⟨d2, g2⟩ | ⟨d2, g2⟩
            · left
              have := ahead_trans g1 g2
              refine ⟨⟨d1.1, fun e => ?_⟩, this⟩
              rw [e] at this
              exact ahead_asymm this this
            · left
              have e : stt u = stt v := Classical.byContradiction fun q => d2 ⟨by have := d1.1; omega, q⟩
              rw [← e]
              exact ⟨⟨d1.1, by rw [← e]; exact d1.2⟩, g1⟩
          · rcases h' with ⟨d2, g2⟩ | ⟨d2, g2⟩
            · left
              have e : stt t = stt u := Classical.byContradiction fun q => d1 ⟨by have := d2.1; omega, q⟩
              rw [e]
              exact ⟨⟨by have := d2.1; omega, by rw [e]; exact d2.2⟩, g2⟩
            · right
              refine ⟨fun q => ?_, k3 g1 g2⟩
              have e1' : stt t = stt u := Classical.byContradiction fun z => d1 ⟨q.1, z⟩
              have e2' : stt u = stt v := Classical.byContradiction fun z => d2 ⟨by have := q.1; omega, z⟩
              exact q.2 (e1'.trans e2')
noncomputable def riseL : List Sd → Bool
  | x :: y :: r => decide (cmpT x y < 0) && riseL (y :: r)
  | _ => true
theorem cmp_lt {t u : Sd} (h : cmpT t u < 0) : cmpT t u = -1 := by
  rcases cmp_vals _ t u (Nat.le_refl _) with q | q | q <;> omega
theorem rise_all : ∀ {l : List Sd} {x : Sd}, (∀ y ∈ x :: l, setsOk y) → riseL (x :: l) = true → ∀ y ∈ l, cmpT x y = -1
  | [], x, _, _, y, h => by cases h
  | z :: r, x, hs, hr, y, h => by
    simp only [riseL, Bool.and_eq_true, decide_eq_true_eq] at hr
    have h1 := cmp_lt hr.1
    rcases List.mem_cons.1 h with rfl | h
    · exact h1
    · have h2 := rise_all (fun w hw => hs w (by simp [hw])) hr.2 y h
      exact (cmp_trans _ x z y (Nat.le_refl _) (hs x (by simp)) (hs z (by simp)) (hs y (by simp [h]))).2.2 h1 h2
theorem rise_tail {x : Sd} {l : List Sd} (h : riseL (x :: l) = true) : riseL l = true := by
  cases l with
  | nil => rfl
  | cons y r => simp only [riseL, Bool.and_eq_true] at h; exact h.2
noncomputable def insT : List Sd → Sd → List Sd
  | [], r => [r]
  | x :: l, r => if cmpT x r < 0 then x :: insT l r else if cmpT x r = 0 then x :: l else r :: x :: l
theorem insT_mem : ∀ {l : List Sd} {r y : Sd}, y ∈ insT l r → y = r ∨ y ∈ l
  | [], r, y, h => Or.inl (List.mem_singleton.1 h)
  | x :: l, r, y, h => by
    unfold insT at h
    split at h
    · rcases List.mem_cons.1 h with rfl | h
      · exact Or.inr (by simp)
      · rcases insT_mem h with h | h
        · exact Or.inl h
        · exact Or.inr (by simp [h])
    · split at h
      · exact Or.inr h
      · rcases List.mem_cons.1 h with rfl | h
        · exact Or.inl rfl
        · exact Or.inr h
theorem insT_rise : ∀ {l : List Sd} {r : Sd}, (∀ y ∈ l, setsOk y) → setsOk r → riseL l = true → riseL (insT l r) = true
  | [], r, _, _, _ => rfl
  | x :: l, r, hs, hr, h => by
    unfold insT
    by_cases h1 : cmpT x r < 0
    · rw [if_pos h1]
      have ih := insT_rise (r := r) (fun y hy => hs y (by simp [hy])) hr (rise_tail h)
      cases l with
      | nil => simp only [insT, riseL, Bool.and_true, decide_eq_true_eq]; exact h1
      | cons z q =>
        simp only [riseL, Bool.and_eq_true, decide_eq_true_eq] at h
        unfold insT at ih ⊢
        split
        · rename_i g
          rw [if_pos g] at ih
          simp only [riseL, Bool.and_eq_true, decide_eq_true_eq]
          exact ⟨h.1, ih⟩
        · rename_i g
          rw [if_neg g] at ih
          split
          · rename_i g2
            rw [if_pos g2] at ih
            simp only [riseL, Bool.and_eq_true, decide_eq_true_eq]
            exact ⟨h.1, ih⟩
          · rename_i g2
            rw [if_neg g2] at ih
            simp only [riseL, Bool.and_eq_true, decide_eq_true_eq] at ih ⊢
            exact ⟨h1, ih⟩
    · rw [if_neg h1]
      by_cases h2 : cmpT x r = 0
      · rw [if_pos h2]; exact h
      · rw [if_neg h2]
        simp only [riseL, Bool.and_eq_true, decide_eq_true_eq]
        refine ⟨?_, h⟩
        have := cmp_anti _ x r (Nat.le_refl _) (hs x (by simp)) hr
        rcases cmp_vals _ x r (Nat.le_refl _) with q | q | q <;> omega
theorem insT_end : ∀ {l m : List Sd} {r : Sd}, (∀ y ∈ l, cmpT y r = -1) → (∀ y ∈ m, cmpT y r = 1) → insT (l ++ m) r = l ++ r :: m
  | [], [], r, _, _ => rfl
  | [], y :: m, r, _, h => by
    have := h y (by simp)
    show insT (y :: m) r = r :: y :: m
    unfold insT
    rw [if_neg (by omega), if_neg (by omega)]
  | x :: l, m, r, h, h' => by
    show insT (x :: (l ++ m)) r = x :: (l ++ r :: m)
    unfold insT
    rw [if_pos (by have := h x (by simp); omega), insT_end (fun y hy => h y (by simp [hy])) h']
end Go.Ab.T

/- Shown: the reference's constructors. -/
namespace Go.Ab.T
open Go Go.Ab
set_option linter.unusedVariables false
set_option linter.unusedSimpArgs false
set_option maxRecDepth 20000
theorem small_of {n : Nat} (h : n ≤ 100000000) : decide (n < SMALL) = true := decide_eq_true (by show _ < 17179869184; omega)
def Fit (n : Nat) (t : Sd) : Prop := dep t ≤ n ∧ nod t ≤ 2000 ∧ setsOk t
theorem Fit.kid {n : Nat} {t x : Sd} (h : Fit (n + 1) t) (hx : x ∈ kk t) : Fit n x :=
  ⟨by have := dep_kid hx; have := h.1; omega, by have := nod_kid hx; have := h.2.1; omega, (setsOk_iff.1 h.2.2).2 x hx⟩
theorem Fit.mono {n m : Nat} {t : Sd} (h : Fit n t) (hm : n ≤ m) : Fit m t := ⟨Nat.le_trans h.1 hm, h.2⟩
theorem cpl3 {R : Type} (c : Int → List Int → List Sd → (Int → List Int → List Sd → Option R) → Option R) (kf : Nat) (v5 : Int) (v6 : List Int) (ks : List Sd) (v8 : Int) (v9 : List Int) (v11 : List Sd) (hl : ks.length ≤ 100000)
    (hc : ∀ x ∈ ks, ∀ K : Int → List Int → List Sd → Option R, c (kd x) (stt x) (kk x) K = K (kd x) (stt x) (kk x)) (Ke : Int → List Int → List Sd → Int → List Int → List Sd → List Sd → Option R) :
    ∀ (m k i : Nat) (acc : List Sd), i + m = ks.length → m < k → acc.length ≤ i → yy26_l3 c kf k v5 v6 ks v8 v9 v11 Ke (i : Int) acc = Ke v5 v6 ks v8 v9 (acc ++ ks.drop i) v11
  | m, 0, i, acc, _, h, _ => by omega
  | 0, k + 1, i, acc, hi, _, _ => by
    unfold yy26_l3 yy26_l3_b
    rw [decide_eq_false (by omega), cond_false, List.drop_eq_nil_of_le (by omega), List.append_nil]
  | m + 1, k + 1, i, acc, hi, hk, ha => by
    have g0 : decide (0 ≤ (i : Int)) = true := decide_eq_true (by omega)
    have g1 : decide ((i : Int) < (ks.length : Int)) = true := decide_eq_true (by omega)
    unfold yy26_l3 yy26_l3_b
    rw [getD_drop ks i (by omega) DD]
    simp only [g0, g1, gdt, cond_true]
    rw [show Int.toNat (i : Int) = i from rfl]
    refine (hc _ (getD_mem ks i (by omega) DD) _).trans ?_
    rw [gd_true (small_of (by simp; omega)), wi1s i (by omega), eta]
    rw [cpl3 c kf v5 v6 ks v8 v9 v11 hl hc Ke m k (i + 1) _ (by omega) (by omega) (by simp; omega)]
    simp
theorem copy_ok {R : Type} : ∀ (n : Nat) (t : Sd) (kf : Nat), dep t ≤ n → 3000 + n ≤ kf → nod t ≤ 2000 → ∀ K : Int → List Int → List Sd → Option R, yy26 kf (kd t) (stt t) (kk t) K = K (kd t) (stt t) (kk t)
  | 0, t, kf, h, _, _, K => by have := dep_pos t; omega
  | n + 1, t, 0, _, h, _, K => by omega
  | n + 1, t, kf + 1, hd, hk, hn, K => by
    unfold yy26 yy26_b
    have := kk_len t
    refine (cpl3 (yy26 kf) kf (kd t) (stt t) (kk t) 0 ZS [] (by omega) (fun x hx K => copy_ok n x kf (by have := dep_kid hx; omega) (by omega) (by have := nod_kid hx; omega) K) _ (kk t).length kf 0 [] (by omega) (by omega) (by simp)).trans ?_
    rw [List.nil_append, List.drop_zero]
def flatT (k : Int) (l : List Sd) : List Sd := l.flatMap fun x => if kd x = k then kk x else [x]
theorem flatT_cons (k : Int) (x : Sd) (l : List Sd) : flatT k (x :: l) = (if kd x = k then kk x else [x]) ++ flatT k l := List.flatMap_cons
theorem flatT_nod (k : Int) : ∀ l : List Sd, nodL (flatT k l) ≤ nodL l
  | [] => Nat.le_refl _
  | x :: l => by
    have := flatT_nod k l
    rw [flatT_cons, nodL_append, show nodL (x :: l) = nod x + nodL l from rfl]
    split
    · rw [nod_eq x]; omega
    · rw [show nodL [x] = nod x + 0 from rfl]; omega
theorem flat_l3 {R : Type} (kf : Nat) (c : Int) (ks : List Sd) (hl : nodL ks ≤ 100000) (Ke : List Sd → Option R) :
    ∀ (m k i : Nat) (acc : List Sd), i + m = ks.length → m < k → acc.length ≤ 1000000 - nodL (ks.drop i) → yy36_l3 kf k c ks Ke (i : Int) acc = Ke (acc ++ flatT c (ks.drop i))
  | m, 0, i, acc, _, h, _ => by omega
  | 0, k + 1, i, acc, hi, _, _ => by
    unfold yy36_l3 yy36_l3_b
    rw [decide_eq_false (by omega), cond_false, List.drop_eq_nil_of_le (by omega)]; simp [flatT]
  | m + 1, k + 1, i, acc, hi, hk, ha => by
    have g0 : decide (0 ≤ (i : Int)) = true := decide_eq_true (by omega)
    have g1 : decide ((i : Int) < (ks.length : Int)) = true := decide_eq_true (by omega)
    have hdrop := getD_drop ks i (by omega) DD
    have hkl := nodL_len ks
    have hnl : nodL (ks.drop i) ≤ 100000 := by
      have h1 : ks = ks.take i ++ ks.drop i := (List.take_append_drop i ks).symm
      have h2 : nodL ks = nodL (ks.take i) + nodL (ks.drop i) := by conv => lhs; rw [h1]; rw [nodL_append]
      omega
    rw [hdrop] at ha hnl
    have hx := kk_len (ks.getD i DD)
    simp only [nodL] at ha hnl
    unfold yy36_l3 yy36_l3_b
    rw [hdrop, flatT_cons]
    simp only [g0, g1, gdt, cond_true]
    rw [show Int.toNat (i : Int) = i from rfl, wi1s i (by omega)]
    generalize ks.getD i DD = x at *
    have hx : (Rose.kids x).length + 1 ≤ nod x := hx
    by_cases h : kd x = c
    · rw [decide_eq_true h, cond_true, if_pos h, gd_true (small_of (by omega))]
      rw [flat_l3 kf c ks hl Ke m k (i + 1) _ (by omega) (by omega) (by rw [List.length_append]; omega), List.append_assoc]
    · rw [decide_eq_false h, cond_false, if_neg h, gd_true (small_of (by simp; omega)), eta]
      rw [flat_l3 kf c ks hl Ke m k (i + 1) _ (by omega) (by omega) (by simp; omega), List.append_assoc]
theorem flat_ok {R : Type} (kf : Nat) (hkf : 3000 ≤ kf) (c : Int) (l : List Sd) (hl : nodL l ≤ 2000) (K : List Sd → Option R) : yy36 kf c l K = K (flatT c l) := by
  have := nodL_len l
  unfold yy36 yy36_b
  refine (flat_l3 kf c l (by omega) _ l.length kf 0 [] (by omega) (by omega) (by simp)).trans ?_
  rw [List.nil_append, List.drop_zero]
abbrev noneT : Sd := Rose.node (1, ZS, ()) []
abbrev emptyT : Sd := Rose.node (2, ZS, ()) []
def oneOf (k : Int) (alone : Sd) : List Sd → Sd
  | [] => alone
  | [x] => x
  | l => Rose.node (k, ZS, ()) l
def catT (l : List Sd) : Sd :=
  if (flatT 4 l).any (fun x => decide (kd x = 1)) = true then noneT else oneOf 4 emptyT ((flatT 4 l).filter fun x => !decide (kd x = 2))
theorem cat_l4 {R : Type} (kf : Nat) (n : Nat) (hkf : 3000 + n ≤ kf) (v4 : Int) (v5 : List Int) (ks : List Sd) (v8 : List Sd) (hl : ks.length ≤ 2000) (hf : ∀ x ∈ ks, Fit n x) (Kr : Int → List Int → List Sd → Option R) (Ke : Int → List Int → List Sd → List Sd → Option R) :
    ∀ (m k i : Nat) (acc : List Sd), i + m = ks.length → m < k → acc.length ≤ i →
    yy24_l4 kf k v4 v5 ks v8 (fun a b c _ => Kr a b c) Ke (i : Int) acc = if (ks.drop i).any (fun x => decide (kd x = 1)) = true then Kr 1 ZS [] else Ke v4 v5 (acc ++ (ks.drop i).filter fun x => !decide (kd x = 2)) v8
  | m, 0, i, acc, _, h, _ => by omega
  | 0, k + 1, i, acc, hi, _, _ => by
    unfold yy24_l4 yy24_l4_b
    rw [decide_eq_false (by omega), cond_false, List.drop_eq_nil_of_le (by omega)]; simp
  | m + 1, k + 1, i, acc, hi, hk, ha => by
    have g0 : decide (0 ≤ (i : Int)) = true := decide_eq_true (by omega)
    have g1 : decide ((i : Int) < (ks.length : Int)) = true := decide_eq_true (by omega)
    have hm := getD_mem ks i (by omega) DD
    have hfx := hf _ hm
    unfold yy24_l4 yy24_l4_b
    rw [getD_drop ks i (by omega) DD, List.any_cons, List.filter_cons]
    simp only [g0, g1, gdt, cond_true]
    rw [show Int.toNat (i : Int) = i from rfl, wi1s i (by omega)]
    generalize ks.getD i DD = x at *
    by_cases h : kd x = 1
    · rw [decide_eq_true h, cond_true, Bool.true_or, if_pos rfl]
      unfold yy32 yy32_b; rfl
    rw [decide_eq_false h, cond_false, Bool.false_or]
    by_cases h2 : kd x = 2
    · rw [decide_eq_true h2, Bool.not_true, cond_false, if_neg Bool.false_ne_true]
      exact cat_l4 kf n hkf v4 v5 ks v8 hl hf Kr Ke m k (i + 1) acc (by omega) (by omega) (by omega)
    · rw [decide_eq_false h2, Bool.not_false, cond_true, if_pos (show true = true from rfl)]
      refine (copy_ok n x kf hfx.1 hkf hfx.2.1 _).trans ?_
      rw [gd_true (small_of (by simp; omega)), eta]
      rw [cat_l4 kf n hkf v4 v5 ks v8 hl hf Kr Ke m k (i + 1) _ (by omega) (by omega) (by simp; omega)]
      simp
theorem flat_fit {n : Nat} {c : Int} {l : List Sd} (h : ∀ x ∈ l, Fit n x) : ∀ x ∈ flatT c l, Fit n x := by
  intro x hx
  unfold flatT at hx
  obtain ⟨y, hy, hxy⟩ := List.mem_flatMap.1 hx
  have hf := h y hy
  split at hxy
  · cases n with
    | zero => have := hf.1; have := dep_pos y; omega
    | succ n => exact (hf.kid hxy).mono (by omega)
  · rw [List.mem_singleton.1 hxy]; exact hf
theorem oneOf_kk {R : Type} (k : Int) (alone : Sd) (l : List Sd) (K : Int → List Int → List Sd → Option R) :
    (bif decide ((l.length : Int) = 0) then K (kd alone) (stt alone) (kk alone) else bif decide ((l.length : Int) = 1) then gd (decide (0 < (l.length : Int))) (K ((Rose.lab (l.getD 0 DD)).1) ((Rose.lab (l.getD 0 DD)).2.1) (Rose.kids (l.getD 0 DD))) else K k ZS l) =
    K (kd (oneOf k alone l)) (stt (oneOf k alone l)) (kk (oneOf k alone l)) := by
  match l with
  | [] => rfl
  | [x] => rfl
  | x :: y :: r =>
    rw [decide_eq_false (by simp only [List.length_cons]; omega), cond_false, decide_eq_false (by simp only [List.length_cons]; omega), cond_false]; rfl
theorem cat_ok {R : Type} (kf n : Nat) (hkf : 3000 + n ≤ kf) (l : List Sd) (hl : nodL l ≤ 2000) (hf : ∀ x ∈ l, Fit n x) (K : Int → List Int → List Sd → Option R) : yy24 kf l K = K (kd (catT l)) (stt (catT l)) (kk (catT l)) := by
  have h1 := flatT_nod 4 l
  have h2 := nodL_len (flatT 4 l)
  unfold yy24 yy24_b
  rw [flat_ok kf (by omega) 4 l hl]
  refine (cat_l4 kf n hkf 0 ZS (flatT 4 l) [] (by omega) (flat_fit hf) (fun a b c => K a b c) _ (flatT 4 l).length kf 0 [] (by omega) (by omega) (by simp)).trans ?_
  unfold catT
  rw [List.drop_zero, List.nil_append]
  by_cases h : (flatT 4 l).any (fun x => decide (kd x = 1)) = true
  · rw [if_pos h, if_pos h]; rfl
  · rw [if_neg h, if_neg h]
    exact oneOf_kk 4 emptyT _ K
theorem insT_take {l : List Sd} {r : Sd} : ∀ (i : Nat), i ≤ l.length → (∀ j, j < i → cmpT (l.getD j DD) r < 0) → insT l r = l.take i ++ insT (l.drop i) r
  | 0, _, _ => by simp
  | i + 1, hi, h => by
    rw [insT_take i (by omega) fun j hj => h j (by omega), getD_drop l i (by omega) DD]
    conv => lhs; rw [show insT (l.getD i DD :: l.drop (i + 1)) r = l.getD i DD :: insT (l.drop (i + 1)) r by
      conv => lhs; unfold insT
      rw [if_pos (h i (by omega))]]
    rw [take_snoc l i (by omega) DD, List.append_assoc]; rfl
theorem ins_l2 {R : Type} (kf n : Nat) (hkf : 3000 + n ≤ kf) (l : List Sd) (r : Sd) (hl : l.length ≤ 2000) (hf : ∀ x ∈ l, Fit n x) (hr : setsOk r) (Ke : List Sd → Int → Int → List Int → List Sd → Option R) (T : Option R)
    (hT : ∀ i : Nat, i ≤ l.length → (∀ j, j < i → cmpT (l.getD j DD) r < 0) → (i < l.length → ¬ cmpT (l.getD i DD) r < 0) → Ke l (i : Int) (kd r) (stt r) (kk r) = T) :
    ∀ (m k i : Nat), i + m = l.length → m < k → (∀ j, j < i → cmpT (l.getD j DD) r < 0) → yy37_l2 kf k l (kd r) (stt r) (kk r) Ke (i : Int) = T
  | m, 0, i, _, h, _ => by omega
  | 0, k + 1, i, hi, _, hj => by
    unfold yy37_l2 yy37_l2_b
    rw [decide_eq_false (by omega), cond_false]
    exact hT i (by omega) hj fun h => by omega
  | m + 1, k + 1, i, hi, hk, hj => by
    have g0 : decide (0 ≤ (i : Int)) = true := decide_eq_true (by omega)
    have g1 : decide ((i : Int) < (l.length : Int)) = true := decide_eq_true (by omega)
    have hfx := hf _ (getD_mem l i (by omega) DD)
    unfold yy37_l2 yy37_l2_b
    simp only [g0, g1, gdt, cond_true]
    rw [show Int.toNat (i : Int) = i from rfl]
    refine (rcmp_ok n (l.getD i DD) r kf hfx.1 hkf hfx.2.1 hfx.2.2 hr _).trans ?_
    by_cases h : cmpT (l.getD i DD) r < 0
    · rw [decide_eq_true h, cond_true, wi1s i (by omega)]
      exact ins_l2 kf n hkf l r hl hf hr Ke T hT m k (i + 1) (by omega) (by omega) fun j hj' => by
        by_cases hji : j = i
        · subst hji; exact h
        · exact hj j (by omega)
    · rw [decide_eq_false h, cond_false]
      exact hT i (by omega) hj fun _ => h
theorem insert_ok {R : Type} (kf n : Nat) (hkf : 3000 + n ≤ kf) (l : List Sd) (r : Sd) (hl : l.length ≤ 2000) (hf : ∀ x ∈ l, Fit n x) (hr : setsOk r) (K : List Sd → Option R) : yy37 kf l (kd r) (stt r) (kk r) K = K (insT l r) := by
  unfold yy37 yy37_b
  refine ins_l2 kf n hkf l r hl hf hr _ _ (fun i hi hlt hge => ?_) l.length kf 0 (by omega) (by omega) fun j hj => by omega
  have g0 : decide (0 ≤ (i : Int)) = true := decide_eq_true (by omega)
  have g1 : decide ((i : Int) ≤ (l.length : Int)) = true := decide_eq_true (by omega)
  have hlt2 : (l.take i).length ≤ 2000 := by rw [List.length_take]; omega
  have hld : (l.drop i).length ≤ 2000 := by rw [List.length_drop]; omega
  have s1 : decide (([] : List Sd).length + (l.take i).length < SMALL) = true := small_of (by simp; omega)
  have s2 : decide ((([] : List Sd) ++ l.take i).length + [r].length < SMALL) = true := small_of (by simp; omega)
  have s3 : decide ((([] ++ l.take i) ++ [r]).length + (l.drop i).length < SMALL) = true := small_of (by simp only [List.length_append, List.length_nil, List.length_singleton]; omega)
  have tail : ∀ q : insT (l.drop i) r = r :: l.drop i, (gd (decide (0 ≤ (i : Int)))
       (gd (decide ((i : Int) ≤ (l.length : Int)))
        (gd (decide (([] : List Sd).length + (l.take (Int.toNat (i : Int))).length < SMALL))
         (gd (decide ((([] : List Sd) ++ (l.take (Int.toNat (i : Int)))).length + ([(Rose.node (kd r, stt r, ()) (kk r))] : List Sd).length < SMALL))
          (gd (decide (0 ≤ (i : Int)))
           (gd (decide ((i : Int) ≤ (l.length : Int)))
            (gd (decide (((([] : List Sd) ++ (l.take (Int.toNat (i : Int)))) ++ ([(Rose.node (kd r, stt r, ()) (kk r))] : List Sd)).length + (l.drop (Int.toNat (i : Int))).length < SMALL))
             (K (((([] : List Sd) ++ (l.take (Int.toNat (i : Int)))) ++ ([(Rose.node (kd r, stt r, ()) (kk r))] : List Sd)) ++ (l.drop (Int.toNat (i : Int))))))))))) ) = K (insT l r) := by
    intro q
    rw [show Int.toNat (i : Int) = i from rfl, eta]
    simp only [g0, g1, s1, s2, s3, gdt]
    rw [insT_take i hi hlt, q]
    simp
  by_cases hlen : i < l.length
  · rw [decide_eq_true (by omega : (i : Int) < (l.length : Int)), cond_true, g0, gdt, gdt]
    have hfx := hf _ (getD_mem l i hlen DD)
    unfold yy29 yy29_b
    rw [show Int.toNat (i : Int) = i from rfl]
    refine (rcmp_ok n (l.getD i DD) r kf hfx.1 hkf hfx.2.1 hfx.2.2 hr _).trans ?_
    by_cases h0 : cmpT (l.getD i DD) r = 0
    · rw [decide_eq_true h0]
      dsimp only
      rw [cond_true, insT_take i hi hlt, getD_drop l i hlen DD]
      conv => rhs; unfold insT
      rw [if_neg (hge hlen), if_pos h0, ← getD_drop l i hlen DD, List.take_append_drop]
    · rw [decide_eq_false h0]
      dsimp only
      rw [cond_false]
      refine tail ?_
      rw [getD_drop l i hlen DD]
      conv => lhs; unfold insT
      rw [if_neg (hge hlen), if_neg h0]
  · rw [decide_eq_false (by omega : ¬ (i : Int) < (l.length : Int)), cond_false]
    dsimp only
    rw [cond_false]
    refine tail ?_
    rw [List.drop_eq_nil_of_le (by omega)]; rfl
end Go.Ab.T

/- Shown: alternatives, and who is the same. -/
namespace Go.Ab.T
open Go Go.Ab
set_option linter.unusedVariables false
set_option linter.unusedSimpArgs false
set_option maxRecDepth 20000
noncomputable def uniS (s t : List Int) : List Int := setOf fun b => mem s b || mem t b
theorem uniS_set (s t : List Int) : isSet (uniS s t) := setOf_isSet _
theorem ror_ok {R : Type} (kf : Nat) (hkf : 2000 ≤ kf) {s t : List Int} (hs : isSet s) (ht : isSet t) (K : List Int → Option R) : yy18 kf s t K = K (uniS s t) := by
  have := ror_s kf hkf (mem s) (mem t) K
  rw [setOf_mem hs, setOf_mem ht] at this
  exact this
theorem ZS_set : isSet ZS := zero_isSet
theorem uniS_zero {s : List Int} (hs : isSet s) : uniS ZS s = s := by
  unfold uniS
  rw [setOf_congr (q := mem s) fun b hb => by rw [show mem ZS b = false from mem_zero b, Bool.false_or], setOf_mem hs]
noncomputable def altR : List Sd → List Sd → List Int → List Sd × List Int
  | [], out, s => (out, s)
  | x :: r, out, s => if kd x = 1 then altR r out s else if kd x = 3 then altR r out (uniS s (stt x)) else altR r (insT out x) s
open Classical in
noncomputable def altT (l : List Sd) : Sd :=
  oneOf 5 noneT (if (altR (flatT 5 l) [] ZS).2 = ZS then (altR (flatT 5 l) [] ZS).1 else insT (altR (flatT 5 l) [] ZS).1 (Rose.node (3, (altR (flatT 5 l) [] ZS).2, ()) []))
theorem insT_len (l : List Sd) (r : Sd) : (insT l r).length ≤ l.length + 1 := by
  induction l with
  | nil => simp [insT]
  | cons x l ih =>
    unfold insT
    split
    · simp only [List.length_cons]; omega
    · split <;> simp
theorem insT_fit {n : Nat} {l : List Sd} {r : Sd} (h : ∀ x ∈ l, Fit n x) (hr : Fit n r) : ∀ x ∈ insT l r, Fit n x := fun x hx => by
  rcases insT_mem hx with rfl | hx
  · exact hr
  · exact h x hx
theorem altR_inv {n : Nat} : ∀ (l out : List Sd) (s : List Int), (∀ x ∈ l, Fit n x) → (∀ x ∈ out, Fit n x) → isSet s → (∀ x ∈ (altR l out s).1, Fit n x) ∧ isSet (altR l out s).2 ∧ (altR l out s).1.length ≤ out.length + l.length
  | [], out, s, _, h2, h3 => ⟨h2, h3, by simp [altR]⟩
  | x :: r, out, s, h1, h2, h3 => by
    unfold altR
    have hr := fun y hy => h1 y (List.mem_cons_of_mem x hy)
    split
    · obtain ⟨a, b, c⟩ := altR_inv r out s hr h2 h3
      exact ⟨a, b, by simp only [List.length_cons]; omega⟩
    split
    · obtain ⟨a, b, c⟩ := altR_inv r out (uniS s (stt x)) hr h2 (uniS_set _ _)
      exact ⟨a, b, by simp only [List.length_cons]; omega⟩
    · obtain ⟨a, b, c⟩ := altR_inv r (insT out x) s hr (insT_fit h2 (h1 x (by simp))) h3
      have := insT_len out x
      exact ⟨a, b, by simp only [List.length_cons]; omega⟩
theorem alt_l5 {R : Type} (kf n : Nat) (hkf : 3000 + n ≤ kf) (v5 : Int) (v6 : List Int) (ks v9 : List Sd) (hl : ks.length ≤ 1000) (hf : ∀ x ∈ ks, Fit n x) (Ke : List Sd → Int → List Int → List Int → List Sd → Option R) :
    ∀ (m k i : Nat) (out : List Sd) (s : List Int), i + m = ks.length → m < k → (∀ x ∈ out, Fit n x) → out.length ≤ i → isSet s →
    yy22_l5 kf k v5 v6 ks v9 Ke out (i : Int) s = Ke (altR (ks.drop i) out s).1 v5 v6 (altR (ks.drop i) out s).2 v9
  | m, 0, i, out, s, _, h, _, _, _ => by omega
  | 0, k + 1, i, out, s, hi, _, _, _, _ => by
    unfold yy22_l5 yy22_l5_b
    rw [decide_eq_false (by omega), cond_false, List.drop_eq_nil_of_le (by omega)]; rfl
  | m + 1, k + 1, i, out, s, hi, hk, ho, hol, hs => by
    have g0 : decide (0 ≤ (i : Int)) = true := decide_eq_true (by omega)
    have g1 : decide ((i : Int) < (ks.length : Int)) = true := decide_eq_true (by omega)
    have hfx := hf _ (getD_mem ks i (by omega) DD)
    unfold yy22_l5 yy22_l5_b
    rw [getD_drop ks i (by omega) DD]
    simp only [g0, g1, gdt, cond_true]
    rw [show Int.toNat (i : Int) = i from rfl, wi1s i (by omega)]
    generalize ks.getD i DD = x at *
    unfold altR
    by_cases h1 : kd x = 1
    · rw [decide_eq_true h1, cond_true, if_pos h1]
      exact alt_l5 kf n hkf v5 v6 ks v9 hl hf Ke m k (i + 1) out s (by omega) (by omega) ho (by omega) hs
    rw [decide_eq_false h1, cond_false, if_neg h1]
    by_cases h3 : kd x = 3
    · rw [decide_eq_true h3, cond_true, if_pos h3]
      refine (ror_ok kf (by omega) hs (setsOk_iff.1 hfx.2.2).1 _).trans ?_
      exact alt_l5 kf n hkf v5 v6 ks v9 hl hf Ke m k (i + 1) out _ (by omega) (by omega) ho (by omega) (uniS_set _ _)
    · rw [decide_eq_false h3, cond_false, if_neg h3]
      refine (copy_ok n x kf hfx.1 hkf hfx.2.1 _).trans ?_
      refine (insert_ok kf n hkf out x (by omega) ho hfx.2.2 _).trans ?_
      have := insT_len out x
      exact alt_l5 kf n hkf v5 v6 ks v9 hl hf Ke m k (i + 1) _ s (by omega) (by omega) (insT_fit ho hfx) (by omega) hs
theorem bytes_ok {R : Type} (s : List Int) (K : Int → List Int → List Sd → Option R) : yy23 s K = if s = ZS then K 1 ZS [] else K 3 s [] := by
  unfold yy23 yy23_b
  by_cases h : s = ZS
  · rw [decide_eq_true h, cond_true, if_pos h]; rfl
  · rw [decide_eq_false h, cond_false, if_neg h]
theorem alt_ok {R : Type} (kf n : Nat) (hkf : 3000 + n ≤ kf) (l : List Sd) (hl : nodL l ≤ 1000) (hf : ∀ x ∈ l, Fit n x) (K : Int → List Int → List Sd → Option R) : yy22 kf l K = K (kd (altT l)) (stt (altT l)) (kk (altT l)) := by
  have h1 := flatT_nod 5 l
  have h2 := nodL_len (flatT 5 l)
  unfold yy22 yy22_b
  rw [flat_ok kf (by omega) 5 l (by omega)]
  refine (alt_l5 kf n hkf 0 ZS (flatT 5 l) [] (by omega) (flat_fit hf) _ (flatT 5 l).length kf 0 [] ZS (by omega) (by omega) (fun x hx => by cases hx) (by simp) ZS_set).trans ?_
  rw [List.drop_zero]
  obtain ⟨a, b, c⟩ := altR_inv (n := n) (flatT 5 l) [] ZS (flat_fit hf) (fun x hx => by cases hx) ZS_set
  unfold altT
  generalize altR (flatT 5 l) [] ZS = p at *
  obtain ⟨out, s⟩ := p
  dsimp only at a b c ⊢
  by_cases hz : s = ZS
  · rw [decide_eq_true hz, Bool.not_true, cond_false, if_pos hz]
    exact oneOf_kk 5 noneT out K
  · rw [decide_eq_false hz, Bool.not_false, cond_true, if_neg hz, bytes_ok, if_neg hz]
    have hok : setsOk (Rose.node (3, s, ()) [] : Sd) := ⟨b, trivial⟩
    refine (insert_ok kf n hkf out (Rose.node (3, s, ()) []) (by simp at c; omega) a hok _).trans ?_
    exact oneOf_kk 5 noneT _ K
mutual
def sameT : Sd → Sd → Bool
  | .node l ks, .node m js => decide (l.1 = m.1) && decide (l.2.1 = m.2.1) && sameL ks js
def sameL : List Sd → List Sd → Bool
  | [], [] => true
  | x :: r, y :: q => sameT x y && sameL r q
  | _, _ => false
end
theorem sameT_eq (t u : Sd) : sameT t u = (decide (kd t = kd u) && decide (stt t = stt u) && sameL (kk t) (kk u)) := by
  obtain ⟨l, ks⟩ := t; obtain ⟨m, js⟩ := u; rfl
theorem sameL_len : ∀ {l m : List Sd}, sameL l m = true → l.length = m.length
  | [], [], _ => rfl
  | [], _ :: _, h => by cases h
  | _ :: _, [], h => by cases h
  | x :: r, y :: q, h => by
    simp only [sameL, Bool.and_eq_true] at h
    simp [sameL_len h.2]
theorem sameT_iff : ∀ (n : Nat) (t u : Sd), dep t ≤ n → (sameT t u = true ↔ t = u)
  | 0, t, u, h => by have := dep_pos t; omega
  | n + 1, t, u, h => by
    have key : ∀ l m : List Sd, (∀ x ∈ l, dep x ≤ n) → (sameL l m = true ↔ l = m) := by
      intro l
      induction l with
      | nil => intro m _; cases m <;> simp [sameL]
      | cons x r ih =>
        intro m hx
        cases m with
        | nil => simp [sameL]
        | cons y q => simp [sameL, sameT_iff n x y (hx x (by simp)), ih q fun z hz => hx z (by simp [hz])]
    rw [sameT_eq]
    obtain ⟨⟨k, s, ⟨⟩⟩, ks⟩ := t
    obtain ⟨⟨k', s', ⟨⟩⟩, js⟩ := u
    have hd : depL ks + 1 ≤ n + 1 := h
    have := key ks js fun x hx => by have := depL_mem hx; omega
    simp only [Bool.and_eq_true, decide_eq_true_eq]
    show (k = k' ∧ s = s') ∧ sameL ks js = true ↔ _
    rw [this]
    constructor
    · rintro ⟨⟨rfl, rfl⟩, rfl⟩; rfl
    · intro h; injection h with h1 h2; injection h1 with h1 h3; injection h3 with h3 _; exact ⟨⟨h1, h3⟩, h2⟩
theorem same_l4 {R : Type} (c : Int → List Int → List Sd → Int → List Int → List Sd → (Bool → Option R) → Option R) (kf : Nat) (ks js : List Sd) (hl : ks.length ≤ 100000) (hlen : ks.length = js.length)
    (hc : ∀ x ∈ ks, ∀ y ∈ js, ∀ K : Bool → Option R, c (kd x) (stt x) (kk x) (kd y) (stt y) (kk y) K = K (sameT x y)) (K : Bool → Option R) :
    ∀ (m k i : Nat), i + m = ks.length → m < k → yy34_l4 c kf k ks js (fun v => K v) (K true) (i : Int) = K (sameL (ks.drop i) (js.drop i))
  | m, 0, i, _, h => by omega
  | 0, k + 1, i, hi, _ => by
    unfold yy34_l4 yy34_l4_b
    rw [decide_eq_false (by omega), cond_false, List.drop_eq_nil_of_le (by omega), List.drop_eq_nil_of_le (by omega)]; rfl
  | m + 1, k + 1, i, hi, hk => by
    have g0 : decide (0 ≤ (i : Int)) = true := decide_eq_true (by omega)
    have g1 : decide ((i : Int) < (ks.length : Int)) = true := decide_eq_true (by omega)
    have g2 : decide ((i : Int) < (js.length : Int)) = true := decide_eq_true (by omega)
    unfold yy34_l4 yy34_l4_b
    rw [getD_drop ks i (by omega) DD, getD_drop js i (by omega) DD]
    simp only [g0, g1, g2, gdt, cond_true]
    rw [show Int.toNat (i : Int) = i from rfl]
    refine (hc _ (getD_mem ks i (by omega) DD) _ (getD_mem js i (by omega) DD) _).trans ?_
    rw [show sameL (ks.getD i DD :: ks.drop (i + 1)) (js.getD i DD :: js.drop (i + 1)) = (sameT (ks.getD i DD) (js.getD i DD) && sameL (ks.drop (i + 1)) (js.drop (i + 1))) from rfl]
    cases sameT (ks.getD i DD) (js.getD i DD) with
    | false => rfl
    | true =>
      rw [Bool.not_true, cond_false, Bool.true_and, wi1s i (by omega)]
      exact same_l4 c kf ks js hl hlen hc K m k (i + 1) (by omega) (by omega)
theorem rsm_ok {R : Type} : ∀ (n : Nat) (t u : Sd) (kf : Nat), dep t ≤ n → 3000 + n ≤ kf → nod t ≤ 2000 → ∀ K : Bool → Option R, yy34 kf (kd t) (stt t) (kk t) (kd u) (stt u) (kk u) K = K (sameT t u)
  | 0, t, u, kf, h, _, _, K => by have := dep_pos t; omega
  | n + 1, t, u, 0, _, h, _, K => by omega
  | n + 1, t, u, kf + 1, hd, hk, hn, K => by
    rw [sameT_eq]
    unfold yy34 yy34_b
    dsimp only
    by_cases h1 : kd t = kd u
    rotate_left
    · rw [decide_eq_false h1, Bool.not_false, cond_true]; rfl
    rw [decide_eq_true h1, Bool.not_true, cond_false]
    by_cases h2 : stt t = stt u
    rotate_left
    · rw [decide_eq_false h2, Bool.not_false, cond_true]; rfl
    rw [decide_eq_true h2, Bool.not_true, cond_false]
    by_cases h3 : (kk t).length = (kk u).length
    rotate_left
    · rw [decide_eq_false (by omega), Bool.not_false, cond_true]
      have : sameL (kk t) (kk u) = false := by
        cases hq : sameL (kk t) (kk u) with
        | false => rfl
        | true => exact absurd (sameL_len hq) h3
      rw [this]; rfl
    rw [decide_eq_true (by omega), Bool.not_true, cond_false]
    have := kk_len t
    exact same_l4 (yy34 kf) kf (kk t) (kk u) (by omega) h3 (fun x hx y hy K => rsm_ok n x y kf (by have := dep_kid hx; omega) (by omega) (by have := nod_kid hx; omega) K) K (kk t).length kf 0 (by omega) (by omega)
end Go.Ab.T

/- Shown: who is plain, for the program and for the reference. -/
namespace Go.Ab.T
open Go Go.Ab
set_option linter.unusedVariables false
set_option linter.unusedSimpArgs false
set_option maxRecDepth 20000
def badL (ks : List Sd) (l : List Int) : Bool := ks.any fun x => decide (kd x ∈ l)
def setsN (ks : List Sd) : Nat := ks.countP fun x => decide (kd x = 3)
noncomputable def formB (k : Int) (s : List Int) (ks : List Sd) : Bool :=
  if k = 1 ∨ k = 2 then decide (s = ZS) && decide (ks.length = 0)
  else if k = 3 then !decide (s = ZS) && decide (ks.length = 0)
  else if k = 4 then decide (s = ZS) && (decide (1 < ks.length) && !badL ks [4, 1, 2])
  else if k = 5 then decide (s = ZS) && (decide (1 < ks.length) && (!badL ks [5, 1] && (riseL ks && decide (setsN ks ≤ 1))))
  else if k = 6 then decide (s = ZS) && (decide (ks.length = 1) && !badL ks [6, 1, 2])
  else false
mutual
noncomputable def plT : Sd → Bool
  | .node l ks => formB l.1 l.2.1 ks && plL ks
noncomputable def plL : List Sd → Bool
  | [] => true
  | x :: r => plT x && plL r
end
theorem plT_eq (t : Sd) : plT t = (formB (kd t) (stt t) (kk t) && plL (kk t)) := by obtain ⟨l, ks⟩ := t; rfl
theorem plL_iff : ∀ {l : List Sd}, plL l = true ↔ ∀ x ∈ l, plT x = true
  | [] => by simp [plL]
  | x :: r => by simp [plL, plL_iff (l := r)]
theorem index_l2 {R : Type} (kf : Nat) (l : List Int) (c : Int) (hl : l.length ≤ 100) (K : Bool → Option R) : ∀ (m k i : Nat), i + m = l.length → m < k →
    yy71_l2 kf k l c (l.length : Int) (fun v7 => K (decide (0 ≤ v7))) (K (decide ((0 : Int) ≤ -1))) (i : Int) = K (decide (c ∈ l.drop i))
  | m, 0, i, _, h => by omega
  | 0, k + 1, i, hi, _ => by
    unfold yy71_l2 yy71_l2_b
    rw [decide_eq_false (by omega), cond_false, List.drop_eq_nil_of_le (by omega)]; rfl
  | m + 1, k + 1, i, hi, hk => by
    have g0 : decide (0 ≤ (i : Int)) = true := decide_eq_true (by omega)
    have g1 : decide ((i : Int) < (l.length : Int)) = true := decide_eq_true (by omega)
    unfold yy71_l2 yy71_l2_b
    rw [getD_drop l i (by omega) 0]
    simp only [g0, g1, gdt, cond_true]
    rw [show Int.toNat (i : Int) = i from rfl]
    by_cases h : c = l.getD i 0
    · rw [decide_eq_true h, cond_true, decide_eq_true (show c ∈ l.getD i 0 :: l.drop (i + 1) by rw [← h]; exact List.mem_cons_self)]
    · rw [decide_eq_false h, cond_false, wi1s i (by omega), index_l2 kf l c hl K m k (i + 1) (by omega) (by omega)]
      congr 1
      by_cases h2 : c ∈ l.drop (i + 1)
      · rw [decide_eq_true h2, decide_eq_true (List.mem_cons_of_mem _ h2)]
      · rw [decide_eq_false h2, decide_eq_false (fun q => by rcases List.mem_cons.1 q with q | q; exact h q; exact h2 q)]
theorem contains_ok {R : Type} (kf : Nat) (hkf : 200 ≤ kf) (l : List Int) (hl : l.length ≤ 100) (c : Int) (K : Bool → Option R) : yy68 kf l c K = K (decide (c ∈ l)) := by
  unfold yy68 yy68_b yy71 yy71_b
  exact index_l2 kf l c hl K l.length kf 0 (by omega) (by omega)
theorem bad_l2 {R : Type} (kf : Nat) (hkf : 200 ≤ kf) (ks : List Sd) (hl : ks.length ≤ 100000) (l : List Int) (hll : l.length ≤ 100) (K : Bool → Option R) : ∀ (m k i : Nat), i + m = ks.length → m < k →
    yy69_l2 kf k ks (ks.length : Int) (fun v9 v10 => K (decide (0 ≤ v9))) (fun v11 => K (decide ((0 : Int) ≤ -1))) (i : Int) l = K (badL (ks.drop i) l)
  | m, 0, i, _, h => by omega
  | 0, k + 1, i, hi, _ => by
    unfold yy69_l2 yy69_l2_b
    rw [decide_eq_false (by omega), cond_false, List.drop_eq_nil_of_le (by omega)]; rfl
  | m + 1, k + 1, i, hi, hk => by
    have g0 : decide (0 ≤ (i : Int)) = true := decide_eq_true (by omega)
    have g1 : decide ((i : Int) < (ks.length : Int)) = true := decide_eq_true (by omega)
    unfold yy69_l2 yy69_l2_b yy56 yy56_b
    rw [getD_drop ks i (by omega) DD]
    simp only [g0, g1, gdt, cond_true]
    rw [show Int.toNat (i : Int) = i from rfl, contains_ok kf hkf l hll]
    rw [show badL (ks.getD i DD :: ks.drop (i + 1)) l = (decide (kd (ks.getD i DD) ∈ l) || badL (ks.drop (i + 1)) l) from rfl]
    by_cases h : kd (ks.getD i DD) ∈ l
    · rw [decide_eq_true h]; rfl
    · rw [decide_eq_false h, Bool.false_or]
      rw [cond_false, wi1s i (by omega)]
      exact bad_l2 kf hkf ks hl l hll K m k (i + 1) (by omega) (by omega)
theorem rxbad_ok {R : Type} (kf : Nat) (ks : List Sd) (hk : ks.length < kf) (hkf : 200 ≤ kf) (hl : ks.length ≤ 100000) (l : List Int) (hll : l.length ≤ 100) (K : Bool → Option R) : yy55 kf ks l K = K (badL ks l) := by
  unfold yy55 yy55_b yy66 yy66_b yy69 yy69_b
  exact bad_l2 kf hkf ks hl l hll K ks.length kf 0 (by omega) (by omega)
theorem rise_l3 {R : Type} (kf n : Nat) (hkf : 3000 + n ≤ kf) (ks : List Sd) (hl : ks.length ≤ 2000) (hf : ∀ x ∈ ks, Fit n x) (K : Bool → Option R) : ∀ (m k i c : Nat), i + m = ks.length → m < k → c ≤ i →
    yy58_l3 kf k ks ks (ks.length : Int) (fun v13 _ => K v13) (fun v15 => K (decide (v15 ≤ 1))) (c : Int) (i : Int) = K (riseL (ks.drop (i - 1)) && decide (c + setsN (ks.drop i) ≤ 1))
  | m, 0, i, c, _, h, _ => by omega
  | 0, k + 1, i, c, hi, _, _ => by
    unfold yy58_l3 yy58_l3_b
    rw [decide_eq_false (by omega), cond_false, List.drop_eq_nil_of_le (show ks.length ≤ i by omega)]
    have h1 : riseL (ks.drop (i - 1)) = true := by
      by_cases h0 : i = 0
      · subst h0
        have : ks = [] := List.length_eq_zero_iff.1 (by omega)
        subst this; rfl
      · rw [getD_drop ks (i - 1) (by omega) DD, List.drop_eq_nil_of_le (by omega)]; rfl
    rw [h1, Bool.true_and]
    show K (decide ((c : Int) ≤ 1)) = K (decide (c + 0 ≤ 1))
    congr 1
    by_cases h : c ≤ 1
    · rw [decide_eq_true (by omega), decide_eq_true (by omega)]
    · rw [decide_eq_false (by omega), decide_eq_false (by omega)]
  | m + 1, k + 1, i, c, hi, hk, hc => by
    have g0 : decide (0 ≤ (i : Int)) = true := decide_eq_true (by omega)
    have g1 : decide ((i : Int) < (ks.length : Int)) = true := decide_eq_true (by omega)
    unfold yy58_l3 yy58_l3_b yy57 yy57_b
    simp only [g0, g1, gdt, cond_true]
    rw [show Int.toNat (i : Int) = i from rfl, wi1s i (by omega), wi1s c (by omega)]
    have hcnt : setsN (ks.drop i) = (if kd (ks.getD i DD) = 3 then 1 else 0) + setsN (ks.drop (i + 1)) := by
      rw [getD_drop ks i (by omega) DD]
      unfold setsN
      rw [List.countP_cons]
      by_cases h3 : kd (ks.getD i DD) = 3
      · rw [decide_eq_true h3, if_pos rfl, if_pos h3]; omega
      · rw [decide_eq_false h3, if_neg (by simp), if_neg h3]; omega
    have step : ∀ c' : Nat, c' ≤ i + 1 → c + setsN (ks.drop i) = c' + setsN (ks.drop (i + 1)) → (bif decide (0 < (i : Int)) then
         (gd (decide (0 ≤ (IntKind.i64.wrap ((i : Int) - 1))))
          (gd (decide ((IntKind.i64.wrap ((i : Int) - 1)) < (ks.length : Int)))
           (yy52 kf ((Rose.lab (ks.getD (Int.toNat (IntKind.i64.wrap ((i : Int) - 1))) DD)).1) ((Rose.lab (ks.getD (Int.toNat (IntKind.i64.wrap ((i : Int) - 1))) DD)).2.1) (Rose.kids (ks.getD (Int.toNat (IntKind.i64.wrap ((i : Int) - 1))) DD)) ((Rose.lab (ks.getD i DD)).1) ((Rose.lab (ks.getD i DD)).2.1) (Rose.kids (ks.getD i DD)) (fun (v10 : Int) =>
             bif decide (0 ≤ v10) then K false else yy58_l3 kf k ks ks (ks.length : Int) (fun v13 _ => K v13) (fun v15 => K (decide (v15 ≤ 1))) (c' : Int) ((i + 1 : Nat) : Int)))))
         else (bif false then K false else yy58_l3 kf k ks ks (ks.length : Int) (fun v13 _ => K v13) (fun v15 => K (decide (v15 ≤ 1))) (c' : Int) ((i + 1 : Nat) : Int))) = K (riseL (ks.drop (i - 1)) && decide (c + setsN (ks.drop i) ≤ 1)) := by
      intro c' hc' he
      have ih := rise_l3 kf n hkf ks hl hf K m k (i + 1) c' (by omega) (by omega) (by omega)
      rw [show i + 1 - 1 = i from rfl] at ih
      by_cases h0 : i = 0
      · subst h0
        rw [decide_eq_false (by omega), cond_false, cond_false, ih, he]
      · have hw : IntKind.i64.wrap ((i : Int) - 1) = ((i - 1 : Nat) : Int) := by rw [IntKind.wrap_i64]; omega
        rw [decide_eq_true (by omega), cond_true, hw, gd_true (decide_eq_true (by omega)), gd_true (decide_eq_true (by omega)), show Int.toNat ((i - 1 : Nat) : Int) = i - 1 from rfl]
        have hfx := hf _ (getD_mem ks (i - 1) (by omega) DD)
        have hfy := hf _ (getD_mem ks i (by omega) DD)
        refine (rxcmp_ok n _ _ kf hfx.1 hkf hfx.2.1 hfx.2.2 hfy.2.2 _).trans ?_
        have hr : riseL (ks.drop (i - 1)) = (decide (cmpT (ks.getD (i - 1) DD) (ks.getD i DD) < 0) && riseL (ks.drop i)) := by
          rw [getD_drop ks (i - 1) (by omega) DD, show i - 1 + 1 = i by omega, getD_drop ks i (by omega) DD]; rfl
        rw [hr]
        by_cases hc0 : cmpT (ks.getD (i - 1) DD) (ks.getD i DD) < 0
        · rw [decide_eq_false (by omega), cond_false, decide_eq_true hc0, Bool.true_and, ih, he]
        · rw [decide_eq_true (by omega), cond_true, decide_eq_false hc0, Bool.false_and, Bool.false_and]
    by_cases h3 : kd (ks.getD i DD) = 3
    · rw [decide_eq_true h3, cond_true]
      rw [if_pos h3] at hcnt
      exact step (c + 1) (by omega) (by omega)
    · rw [decide_eq_false h3, cond_false]
      rw [if_neg h3] at hcnt
      exact step c (by omega) (by omega)
theorem rising_ok {R : Type} (kf n : Nat) (hkf : 3000 + n ≤ kf) (ks : List Sd) (hl : ks.length ≤ 2000) (hf : ∀ x ∈ ks, Fit n x) (K : Bool → Option R) : yy58 kf ks K = K (riseL ks && decide (setsN ks ≤ 1)) := by
  unfold yy58 yy58_b
  refine (rise_l3 kf n hkf ks hl hf K ks.length kf 0 0 (by omega) (by omega) (by omega)).trans ?_
  rw [List.drop_zero, Nat.zero_add]
theorem kids_l2 {R : Type} (c : Int → List Int → List Sd → (Bool → Option R) → Option R) (kf : Nat) (ks : List Sd) (hl : ks.length ≤ 100000)
    (hc : ∀ x ∈ ks, ∀ K : Bool → Option R, c (kd x) (stt x) (kk x) K = K (plT x)) (K : Bool → Option R) : ∀ (m k i : Nat), i + m = ks.length → m < k →
    yy70_l2 c kf k ks (ks.length : Int) (fun v6 => K (!decide (0 ≤ v6))) (K (!decide ((0 : Int) ≤ -1))) (i : Int) = K (plL (ks.drop i))
  | m, 0, i, _, h => by omega
  | 0, k + 1, i, hi, _ => by
    unfold yy70_l2 yy70_l2_b
    rw [decide_eq_false (by omega), cond_false, List.drop_eq_nil_of_le (by omega)]; rfl
  | m + 1, k + 1, i, hi, hk => by
    have g0 : decide (0 ≤ (i : Int)) = true := decide_eq_true (by omega)
    have g1 : decide ((i : Int) < (ks.length : Int)) = true := decide_eq_true (by omega)
    unfold yy70_l2 yy70_l2_b yy54 yy54_b
    rw [getD_drop ks i (by omega) DD]
    simp only [g0, g1, gdt, cond_true]
    rw [show Int.toNat (i : Int) = i from rfl]
    refine (hc _ (getD_mem ks i (by omega) DD) _).trans ?_
    rw [show plL (ks.getD i DD :: ks.drop (i + 1)) = (plT (ks.getD i DD) && plL (ks.drop (i + 1))) from rfl]
    cases plT (ks.getD i DD) with
    | false =>
      rw [Bool.not_false, cond_true, Bool.false_and]; rfl
    | true =>
      rw [Bool.not_true, cond_false, Bool.true_and, wi1s i (by omega)]
      exact kids_l2 c kf ks hl hc K m k (i + 1) (by omega) (by omega)
theorem rxplain_ok {R : Type} : ∀ (n : Nat) (t : Sd) (kf : Nat), Fit n t → 6000 + n ≤ kf → ∀ K : Bool → Option R, yy53 kf (kd t) (stt t) (kk t) K = K (plT t)
  | 0, t, kf, h, _, K => by have := dep_pos t; have := h.1; omega
  | n + 1, t, 0, _, h, K => by omega
  | n + 1, t, kf + 1, hf, hk, K => by
    have hkl := kk_len t
    have hn := hf.2.1
    have hkids := fun x hx => hf.kid (x := x) hx
    have hrest : yy67 (yy53 kf) kf (kk t) (fun v5 => K (!v5)) = K (plL (kk t)) := by
      unfold yy67 yy67_b yy70 yy70_b
      exact kids_l2 (yy53 kf) kf (kk t) (by omega) (fun x hx K => rxplain_ok n x kf (hkids x hx) (by omega) K) K (kk t).length kf 0 (by omega) (by omega)
    have hb := fun (l : List Int) (hll : l.length ≤ 100) (K : Bool → Option R) => rxbad_ok kf (kk t) (by omega) (by omega) (by omega) l hll K
    have hr := fun (K : Bool → Option R) => rising_ok kf n (by omega) (kk t) (by omega) hkids K
    rw [plT_eq]
    unfold yy53 yy53_b formB
    have fin : ∀ b : Bool, (bif b then yy67 (yy53 kf) kf (kk t) (fun v5 => K (!v5)) else K false) = K (b && plL (kk t)) := by
      intro b
      cases b with
      | true => rw [cond_true, hrest, Bool.true_and]
      | false => rfl
    have lz : ∀ {R' : Type} (a : Bool) (x : Bool → R') , (bif a then x true else x false) = x a := by intro R' a x; cases a <;> rfl
    dsimp only
    generalize kd t = k at *
    generalize stt t = s at *
    generalize kk t = ks at *
    have e0 : decide ((ks.length : Int) = 0) = decide (ks.length = 0) := by
      by_cases h : ks.length = 0
      · rw [decide_eq_true h, decide_eq_true (by omega)]
      · rw [decide_eq_false h, decide_eq_false (by omega)]
    have e1 : decide ((1 : Int) < (ks.length : Int)) = decide (1 < ks.length) := by
      by_cases h : 1 < ks.length
      · rw [decide_eq_true h, decide_eq_true (by omega)]
      · rw [decide_eq_false h, decide_eq_false (by omega)]
    have e2 : decide ((ks.length : Int) = 1) = decide (ks.length = 1) := by
      by_cases h : ks.length = 1
      · rw [decide_eq_true h, decide_eq_true (by omega)]
      · rw [decide_eq_false h, decide_eq_false (by omega)]
    simp only [fin, hb _ (show ([4, 1, 2] : List Int).length ≤ 100 by decide), hb _ (show ([5, 1] : List Int).length ≤ 100 by decide), hb _ (show ([6, 1, 2] : List Int).length ≤ 100 by decide), hr, e0, e1, e2]
    by_cases h1 : k = 1
    · subst h1
      rw [decide_eq_true rfl, cond_true, cond_true, if_pos (Or.inl rfl)]
      cases decide (s = ZS) <;> rfl
    rw [decide_eq_false h1, cond_false]
    by_cases h2 : k = 2
    · subst h2
      rw [decide_eq_true rfl, cond_true, if_pos (Or.inr rfl)]
      cases decide (s = ZS) <;> rfl
    rw [decide_eq_false h2, cond_false, if_neg (fun q => q.elim h1 h2)]
    by_cases h3 : k = 3
    · subst h3
      rw [decide_eq_true rfl, cond_true, if_pos rfl]
      cases decide (s = ZS) <;> rfl
    rw [decide_eq_false h3, cond_false, if_neg h3]
    by_cases h4 : k = 4
    · subst h4
      rw [decide_eq_true rfl, cond_true, if_pos rfl]
      cases decide (s = ZS) <;> cases decide (1 < ks.length) <;> rfl
    rw [decide_eq_false h4, cond_false, if_neg h4]
    by_cases h5 : k = 5
    · subst h5
      rw [decide_eq_true rfl, cond_true, if_pos rfl]
      cases decide (s = ZS) <;> cases decide (1 < ks.length) <;> cases badL ks [5, 1] <;> rfl
    rw [decide_eq_false h5, cond_false, if_neg h5]
    by_cases h6 : k = 6
    · subst h6
      rw [decide_eq_true rfl, cond_true, if_pos rfl]
      cases decide (s = ZS) <;> cases decide (ks.length = 1) <;> rfl
    · rw [decide_eq_false h6, cond_false, if_neg h6]
end Go.Ab.T

/- Shown: the reference's plain is the program's. -/
namespace Go.Ab.T
open Go Go.Ab
set_option linter.unusedVariables false
set_option linter.unusedSimpArgs false
set_option maxRecDepth 20000
theorem badL_iff {ks : List Sd} {l : List Int} : badL ks l = false ↔ ∀ x ∈ ks, kd x ∉ l := by
  unfold badL
  rw [List.any_eq_false]
  simp
theorem pl_kids {t : Sd} (h : plT t = true) : ∀ x ∈ kk t, plT x = true := by
  rw [plT_eq, Bool.and_eq_true] at h
  exact plL_iff.1 h.2
theorem pl_form {t : Sd} (h : plT t = true) : formB (kd t) (stt t) (kk t) = true := by
  rw [plT_eq, Bool.and_eq_true] at h
  exact h.1
theorem form4 {s : List Int} {ks : List Sd} : formB 4 s ks = true ↔ s = ZS ∧ 1 < ks.length ∧ badL ks [4, 1, 2] = false := by
  unfold formB
  simp only [Int.reduceEq, or_self, if_false, if_true, Bool.and_eq_true, decide_eq_true_eq, Bool.not_eq_true']
theorem form5 {s : List Int} {ks : List Sd} : formB 5 s ks = true ↔ s = ZS ∧ 1 < ks.length ∧ badL ks [5, 1] = false ∧ riseL ks = true ∧ setsN ks ≤ 1 := by
  unfold formB
  simp only [Int.reduceEq, or_self, if_false, if_true, Bool.and_eq_true, decide_eq_true_eq, Bool.not_eq_true']
theorem form3 {s : List Int} {ks : List Sd} : formB 3 s ks = true ↔ s ≠ ZS ∧ ks.length = 0 := by
  unfold formB
  simp only [Int.reduceEq, or_self, if_false, if_true, Bool.and_eq_true, decide_eq_true_eq, Bool.not_eq_true', decide_eq_false_iff_not, ne_eq]
theorem form1 {s : List Int} {ks : List Sd} : formB 1 s ks = true ↔ s = ZS ∧ ks.length = 0 := by
  unfold formB
  simp only [true_or, if_true, Bool.and_eq_true, decide_eq_true_eq]
theorem form2 {s : List Int} {ks : List Sd} : formB 2 s ks = true ↔ s = ZS ∧ ks.length = 0 := by
  unfold formB
  simp only [or_true, if_true, Bool.and_eq_true, decide_eq_true_eq]
theorem form6 {s : List Int} {ks : List Sd} : formB 6 s ks = true ↔ s = ZS ∧ ks.length = 1 ∧ badL ks [6, 1, 2] = false := by
  unfold formB
  simp only [Int.reduceEq, or_self, if_false, if_true, Bool.and_eq_true, decide_eq_true_eq, Bool.not_eq_true']
theorem pl_cat {t : Sd} (h : plT t = true) (hk : kd t = 4) : ∀ x ∈ kk t, kd x ≠ 4 ∧ kd x ≠ 1 ∧ kd x ≠ 2 := by
  have := pl_form h
  rw [hk] at this
  have := badL_iff.1 (form4.1 this).2.2
  intro x hx
  have := this x hx
  simp at this; omega
theorem pl_alt {t : Sd} (h : plT t = true) (hk : kd t = 5) : ∀ x ∈ kk t, kd x ≠ 5 ∧ kd x ≠ 1 := by
  have := pl_form h
  rw [hk] at this
  have := badL_iff.1 (form5.1 this).2.2.1
  intro x hx
  have := this x hx
  simp at this; omega
theorem flat_mem {c : Int} {l : List Sd} {x : Sd} (h : x ∈ flatT c l) : (x ∈ l ∧ kd x ≠ c) ∨ ∃ y ∈ l, kd y = c ∧ x ∈ kk y := by
  unfold flatT at h
  obtain ⟨y, hy, hxy⟩ := List.mem_flatMap.1 h
  split at hxy
  · rename_i hk; exact Or.inr ⟨y, hy, hk, hxy⟩
  · rename_i hk
    rw [List.mem_singleton.1 hxy]; exact Or.inl ⟨hy, hk⟩
theorem flat_id {c : Int} : ∀ {l : List Sd}, (∀ x ∈ l, kd x ≠ c) → flatT c l = l
  | [], _ => rfl
  | x :: l, h => by rw [flatT_cons, if_neg (h x (by simp)), flat_id fun y hy => h y (by simp [hy])]; rfl
theorem flat4_kd {l : List Sd} (h : ∀ x ∈ l, plT x = true) : ∀ x ∈ flatT 4 l, kd x ≠ 4 := by
  intro x hx
  rcases flat_mem hx with ⟨_, q⟩ | ⟨y, hy, hk, hxy⟩
  · exact q
  · exact (pl_cat (h y hy) hk x hxy).1
theorem flat5_kd {l : List Sd} (h : ∀ x ∈ l, plT x = true) : ∀ x ∈ flatT 5 l, kd x ≠ 5 := by
  intro x hx
  rcases flat_mem hx with ⟨_, q⟩ | ⟨y, hy, hk, hxy⟩
  · exact q
  · exact (pl_alt (h y hy) hk x hxy).1
theorem flat_pl {c : Int} {l : List Sd} (h : ∀ x ∈ l, plT x = true) : ∀ x ∈ flatT c l, plT x = true := by
  intro x hx
  rcases flat_mem hx with ⟨q, _⟩ | ⟨y, hy, hk, hxy⟩
  · exact h x q
  · exact pl_kids (h y hy) x hxy
theorem oneOf_long {k : Int} {a : Sd} {l : List Sd} (h : 1 < l.length) : oneOf k a l = Rose.node (k, ZS, ()) l := by
  match l, h with
  | x :: y :: r, _ => rfl
theorem node_inj {k k' : Int} {s s' : List Int} {l l' : List Sd} (h : (Rose.node (k, s, ()) l : Sd) = Rose.node (k', s', ()) l') : k = k' ∧ s = s' ∧ l = l' := by
  injection h with h1 h2
  injection h1 with h1 h3
  injection h3 with h3 _
  exact ⟨h1, h3, h2⟩
theorem oneOf_eq {k : Int} {a : Sd} {l ks : List Sd} (h : oneOf k a l = Rose.node (k, ZS, ()) ks) (ha : kd a ≠ k) (hl : ∀ x ∈ l, kd x ≠ k) : l = ks := by
  match l with
  | [] => exact absurd (by have h : a = Rose.node (k, ZS, ()) ks := h; rw [h]; rfl) ha
  | [x] => exact absurd (by have h : x = Rose.node (k, ZS, ()) ks := h; rw [h]; rfl) (hl x (by simp))
  | x :: y :: r => exact (node_inj h).2.2
theorem cat_plain {ks : List Sd} (h : ∀ x ∈ ks, plT x = true) (hl : 1 < ks.length) : catT ks = Rose.node (4, ZS, ()) ks ↔ badL ks [4, 1, 2] = false := by
  rw [badL_iff]
  constructor
  · intro he
    unfold catT at he
    by_cases hn : (flatT 4 ks).any (fun x => decide (kd x = 1)) = true
    · rw [if_pos hn] at he
      have := (node_inj he).1
      omega
    · rw [if_neg hn] at he
      have hf : (flatT 4 ks).filter (fun x => !decide (kd x = 2)) = ks := oneOf_eq he (by decide) fun x hx => flat4_kd h x (List.mem_filter.1 hx).1
      intro x hx
      rw [← hf] at hx
      obtain ⟨hx1, hx2⟩ := List.mem_filter.1 hx
      have a1 := flat4_kd h x hx1
      have a2 : kd x ≠ 1 := fun q => hn (List.any_eq_true.2 ⟨x, hx1, decide_eq_true q⟩)
      have a3 : kd x ≠ 2 := by simpa using hx2
      simp; omega
  · intro hk
    have hk' : ∀ x ∈ ks, kd x ≠ 4 ∧ kd x ≠ 1 ∧ kd x ≠ 2 := fun x hx => by have := hk x hx; simp at this; omega
    unfold catT
    rw [flat_id fun x hx => (hk' x hx).1, if_neg, List.filter_eq_self.2, oneOf_long hl]
    · intro x hx; simp [(hk' x hx).2.2]
    · rw [List.any_eq_true]
      rintro ⟨x, hx, q⟩
      exact (hk' x hx).2.1 (of_decide_eq_true q)
theorem rise_pw : ∀ {l : List Sd}, (∀ x ∈ l, setsOk x) → riseL l = true → l.Pairwise fun x y => cmpT x y = -1
  | [], _, _ => List.Pairwise.nil
  | x :: l, h, hr => List.Pairwise.cons (rise_all h hr) (rise_pw (fun y hy => h y (by simp [hy])) (rise_tail hr))
theorem altR_out {n : Nat} : ∀ (l out : List Sd) (s : List Int), (∀ x ∈ l, Fit n x ∧ kd x ≠ 5) → (∀ x ∈ out, Fit n x ∧ kd x ≠ 5 ∧ kd x ≠ 1 ∧ kd x ≠ 3) → riseL out = true →
    (∀ x ∈ (altR l out s).1, kd x ≠ 5 ∧ kd x ≠ 1 ∧ kd x ≠ 3) ∧ riseL (altR l out s).1 = true
  | [], out, s, _, h2, h3 => ⟨fun x hx => (h2 x hx).2, h3⟩
  | x :: r, out, s, h1, h2, h3 => by
    unfold altR
    have hr := fun y hy => h1 y (List.mem_cons_of_mem x hy)
    have hx := h1 x (by simp)
    by_cases q1 : kd x = 1
    · rw [if_pos q1]; exact altR_out r out s hr h2 h3
    rw [if_neg q1]
    by_cases q3 : kd x = 3
    · rw [if_pos q3]; exact altR_out r out _ hr h2 h3
    rw [if_neg q3]
    refine altR_out r (insT out x) s hr (fun y hy => ?_) (insT_rise (fun y hy => (h2 y hy).1.2.2) hx.1.2.2 h3)
    rcases insT_mem hy with rfl | hy
    · exact ⟨hx.1, hx.2, q1, q3⟩
    · exact h2 y hy
theorem setsN_ins (l : List Sd) (r : Sd) : setsN (insT l r) ≤ setsN l + 1 := by
  induction l with
  | nil =>
    unfold insT setsN
    rw [List.countP_cons, List.countP_nil]
    split <;> omega
  | cons x l ih =>
    unfold insT
    split
    · unfold setsN at ih ⊢
      rw [List.countP_cons, List.countP_cons]
      omega
    · split
      · omega
      · unfold setsN
        rw [List.countP_cons]
        split <;> omega
theorem setsN_zero {l : List Sd} (h : ∀ x ∈ l, kd x ≠ 3) : setsN l = 0 := by
  unfold setsN
  rw [List.countP_eq_zero]
  intro x hx
  simp [h x hx]
noncomputable def sumS (l : List Sd) (s : List Int) : List Int := (l.filter fun x => decide (kd x = 3)).foldl (fun s x => uniS s (stt x)) s
theorem altR_eq : ∀ (l out : List Sd) (s : List Int), (∀ x ∈ l, kd x ≠ 1) → l.Pairwise (fun x y => cmpT x y = -1) → (∀ y ∈ out, ∀ x ∈ l, cmpT y x = -1) →
    altR l out s = (out ++ l.filter (fun x => !decide (kd x = 3)), sumS l s)
  | [], out, s, _, _, _ => by simp [altR, sumS]
  | x :: r, out, s, h1, h2, h3 => by
    unfold altR
    rw [if_neg (h1 x (by simp))]
    obtain ⟨p1, p2⟩ := List.pairwise_cons.1 h2
    have hr := fun y hy => h1 y (List.mem_cons_of_mem x hy)
    by_cases q3 : kd x = 3
    · rw [if_pos q3, altR_eq r out _ hr p2 fun y hy z hz => h3 y hy z (by simp [hz])]
      unfold sumS
      rw [List.filter_cons, List.filter_cons, decide_eq_true q3]
      simp
    · rw [if_neg q3]
      have hins : insT out x = out ++ [x] := by
        have := insT_end (l := out) (m := []) (r := x) (fun y hy => h3 y hy x (by simp)) (fun y hy => by cases hy)
        rwa [List.append_nil] at this
      rw [hins, altR_eq r (out ++ [x]) s hr p2 fun y hy z hz => by
        rcases List.mem_append.1 hy with hy | hy
        · exact h3 y hy z (by simp [hz])
        · rw [List.mem_singleton.1 hy]; exact p1 z hz]
      unfold sumS
      rw [List.filter_cons, List.filter_cons, decide_eq_false q3]
      simp
theorem one_set : ∀ {l : List Sd}, setsN l ≤ 1 → (∀ x ∈ l, kd x ≠ 3) ∨ ∃ a t b, l = a ++ t :: b ∧ kd t = 3 ∧ (∀ x ∈ a, kd x ≠ 3) ∧ ∀ x ∈ b, kd x ≠ 3
  | [], _ => Or.inl (fun x hx => by cases hx)
  | x :: l, h => by
    unfold setsN at h
    rw [List.countP_cons] at h
    by_cases h3 : kd x = 3
    · rw [decide_eq_true h3, if_pos rfl] at h
      right
      refine ⟨[], x, l, rfl, h3, (fun y hy => by cases hy), fun y hy q => ?_⟩
      have := (List.countP_pos_iff (p := fun x : Sd => decide (kd x = 3))).2 ⟨y, hy, decide_eq_true q⟩
      omega
    · rw [decide_eq_false h3, if_neg Bool.false_ne_true] at h
      rcases one_set (l := l) (by unfold setsN; omega) with g | ⟨a, t, b, g1, g2, g3, g4⟩
      · left
        intro y hy
        rcases List.mem_cons.1 hy with rfl | hy
        · exact h3
        · exact g y hy
      · right
        refine ⟨x :: a, t, b, by rw [g1]; rfl, g2, fun y hy => ?_, g4⟩
        rcases List.mem_cons.1 hy with rfl | hy
        · exact h3
        · exact g3 y hy
theorem filter_no {l : List Sd} (h : ∀ x ∈ l, kd x ≠ 3) : l.filter (fun x => !decide (kd x = 3)) = l ∧ l.filter (fun x => decide (kd x = 3)) = [] := by
  refine ⟨List.filter_eq_self.2 fun x hx => by simp [h x hx], List.filter_eq_nil_iff.2 fun x hx => by simp [h x hx]⟩
theorem set_node {t : Sd} (h : plT t = true) (hk : kd t = 3) : t = Rose.node (3, stt t, ()) [] ∧ stt t ≠ ZS := by
  have := pl_form h
  rw [hk] at this
  obtain ⟨a, b⟩ := form3.1 this
  refine ⟨?_, a⟩
  have hkk : kk t = [] := List.length_eq_zero_iff.1 b
  conv => lhs; rw [← eta t, hk, hkk]
theorem alt_rise {n : Nat} {ks : List Sd} (h : ∀ x ∈ ks, plT x = true) (hf : ∀ x ∈ ks, Fit n x) (hk : ∀ x ∈ ks, kd x ≠ 5 ∧ kd x ≠ 1) (hr : riseL ks = true) (hs : setsN ks ≤ 1) : altT ks = oneOf 5 noneT ks := by
  have hpw := rise_pw (fun x hx => (hf x hx).2.2) hr
  unfold altT
  rw [flat_id fun x hx => (hk x hx).1, altR_eq ks [] ZS (fun x hx => (hk x hx).2) hpw (fun y hy => by cases hy)]
  dsimp only
  rw [List.nil_append]
  rcases one_set hs with g | ⟨a, t, b, g1, g2, g3, g4⟩
  · obtain ⟨f1, f2⟩ := filter_no g
    unfold sumS
    rw [f1, f2, if_pos (show List.foldl (fun s x => uniS s (stt x)) ZS [] = ZS from rfl)]
  · obtain ⟨f1, f2⟩ := filter_no g3
    obtain ⟨f3, f4⟩ := filter_no g4
    have ht : t ∈ ks := by rw [g1]; simp
    obtain ⟨t1, t2⟩ := set_node (h t ht) g2
    have htS := (setsOk_iff.1 (hf t ht).2.2).1
    have e1 : ks.filter (fun x => !decide (kd x = 3)) = a ++ b := by
      rw [g1, List.filter_append, List.filter_cons, decide_eq_true g2, f1, f3]; simp
    have e2 : sumS ks ZS = stt t := by
      unfold sumS
      rw [g1, List.filter_append, List.filter_cons, decide_eq_true g2, f2, f4]
      simp only [List.nil_append, if_true, List.foldl_cons, List.foldl_nil]
      exact uniS_zero htS
    rw [e1, e2, if_neg t2, ← t1]
    rw [g1] at hpw
    obtain ⟨p1, p2, p3⟩ := List.pairwise_append.1 hpw
    obtain ⟨p4, p5⟩ := List.pairwise_cons.1 p2
    rw [insT_end (fun y hy => p3 y hy t (by simp)) (fun y hy => ?_), ← g1]
    have hyk : y ∈ ks := by rw [g1]; simp [hy]
    rw [cmp_anti _ t y (Nat.le_refl _) (hf t ht).2.2 (hf y hyk).2.2, p4 y hy]; rfl
theorem alt_plain {n : Nat} {ks : List Sd} (h : ∀ x ∈ ks, plT x = true) (hf : ∀ x ∈ ks, Fit n x) (hl : 1 < ks.length) : altT ks = Rose.node (5, ZS, ()) ks ↔ badL ks [5, 1] = false ∧ riseL ks = true ∧ setsN ks ≤ 1 := by
  rw [badL_iff]
  constructor
  · intro he
    obtain ⟨a1, a2⟩ := altR_out (n := n) (flatT 5 ks) [] ZS (fun x hx => ⟨flat_fit hf x hx, flat5_kd h x hx⟩) (fun x hx => by cases hx) rfl
    obtain ⟨b1, b2, _⟩ := altR_inv (n := n) (flatT 5 ks) [] ZS (flat_fit hf) (fun x hx => by cases hx) ZS_set
    unfold altT at he
    generalize altR (flatT 5 ks) [] ZS = p at *
    obtain ⟨out, s⟩ := p
    dsimp only at *
    by_cases hz : s = ZS
    · rw [if_pos hz] at he
      have := oneOf_eq he (by decide) fun x hx => (a1 x hx).1
      subst this
      exact ⟨fun x hx => by have := a1 x hx; simp; omega, a2, by rw [setsN_zero fun x hx => (a1 x hx).2.2]; omega⟩
    · rw [if_neg hz] at he
      have hk : ∀ x ∈ insT out (Rose.node (3, s, ()) []), kd x ≠ 5 ∧ kd x ≠ 1 := fun x hx => by
        rcases insT_mem hx with rfl | hx
        · exact ⟨(by show (3 : Int) ≠ 5; decide), (by show (3 : Int) ≠ 1; decide)⟩
        · exact ⟨(a1 x hx).1, (a1 x hx).2.1⟩
      have := oneOf_eq he (by decide) fun x hx => (hk x hx).1
      rw [← this]
      refine ⟨fun x hx => by have := hk x hx; simp; omega, insT_rise (fun y hy => (b1 y hy).2.2) ⟨b2, trivial⟩ a2, ?_⟩
      have := setsN_ins out (Rose.node (3, s, ()) [])
      rw [setsN_zero fun x hx => (a1 x hx).2.2] at this
      omega
  · rintro ⟨h1, h2, h3⟩
    rw [alt_rise h hf (fun x hx => by have := h1 x hx; simp at this; omega) h2 h3, oneOf_long hl]
theorem rp_l2 {R : Type} (c : Int → List Int → List Sd → (Bool → Option R) → Option R) (kf : Nat) (v5 : Int) (v6 : List Int) (ks : List Sd) (hl : ks.length ≤ 100000)
    (hc : ∀ x ∈ ks, ∀ K : Bool → Option R, c (kd x) (stt x) (kk x) K = K (plT x)) (K : Bool → Option R) (Ke : Int → List Int → List Sd → Option R) : ∀ (m k i : Nat), i + m = ks.length → m < k →
    yy33_l2 c kf k v5 v6 ks (fun v9 _ _ _ => K v9) Ke (i : Int) = if plL (ks.drop i) = true then Ke v5 v6 ks else K false
  | m, 0, i, _, h => by omega
  | 0, k + 1, i, hi, _ => by
    unfold yy33_l2 yy33_l2_b
    rw [decide_eq_false (by omega), cond_false, List.drop_eq_nil_of_le (by omega)]; rfl
  | m + 1, k + 1, i, hi, hk => by
    have g0 : decide (0 ≤ (i : Int)) = true := decide_eq_true (by omega)
    have g1 : decide ((i : Int) < (ks.length : Int)) = true := decide_eq_true (by omega)
    unfold yy33_l2 yy33_l2_b
    rw [getD_drop ks i (by omega) DD]
    simp only [g0, g1, gdt, cond_true]
    rw [show Int.toNat (i : Int) = i from rfl]
    refine (hc _ (getD_mem ks i (by omega) DD) _).trans ?_
    rw [show plL (ks.getD i DD :: ks.drop (i + 1)) = (plT (ks.getD i DD) && plL (ks.drop (i + 1))) from rfl]
    cases plT (ks.getD i DD) with
    | false => rfl
    | true =>
      rw [Bool.not_true, cond_false, Bool.true_and, wi1s i (by omega)]
      exact rp_l2 c kf v5 v6 ks hl hc K Ke m k (i + 1) (by omega) (by omega)
end Go.Ab.T

/- Shown: the reference's plain; signs and sets. -/
namespace Go.Ab.T
open Go Go.Ab
set_option linter.unusedVariables false
set_option linter.unusedSimpArgs false
set_option maxRecDepth 20000
theorem rsm_ok2 {R : Type} : ∀ (n : Nat) (t u : Sd) (kf : Nat), dep u ≤ n → 3000 + n ≤ kf → nod u ≤ 2000 → ∀ K : Bool → Option R, yy34 kf (kd t) (stt t) (kk t) (kd u) (stt u) (kk u) K = K (sameT t u)
  | 0, t, u, kf, h, _, _, K => by have := dep_pos u; omega
  | n + 1, t, u, 0, _, h, _, K => by omega
  | n + 1, t, u, kf + 1, hd, hk, hn, K => by
    rw [sameT_eq]
    unfold yy34 yy34_b
    dsimp only
    by_cases h1 : kd t = kd u
    rotate_left
    · rw [decide_eq_false h1, Bool.not_false, cond_true]; rfl
    rw [decide_eq_true h1, Bool.not_true, cond_false]
    by_cases h2 : stt t = stt u
    rotate_left
    · rw [decide_eq_false h2, Bool.not_false, cond_true]; rfl
    rw [decide_eq_true h2, Bool.not_true, cond_false]
    by_cases h3 : (kk t).length = (kk u).length
    rotate_left
    · rw [decide_eq_false (by omega), Bool.not_false, cond_true]
      have : sameL (kk t) (kk u) = false := by
        cases hq : sameL (kk t) (kk u) with
        | false => rfl
        | true => exact absurd (sameL_len hq) h3
      rw [this]; rfl
    rw [decide_eq_true (by omega), Bool.not_true, cond_false]
    have := kk_len u
    exact same_l4 (yy34 kf) kf (kk t) (kk u) (by omega) h3 (fun x hx y hy K => rsm_ok2 n x y kf (by have := dep_kid hy; omega) (by omega) (by have := nod_kid hy; omega) K) K (kk t).length kf 0 (by omega) (by omega)
theorem rplain_ok {R : Type} : ∀ (n : Nat) (t : Sd) (kf : Nat), Fit n t → nod t ≤ 1000 → 6000 + n ≤ kf → ∀ K : Bool → Option R, yy33 kf (kd t) (stt t) (kk t) K = K (plT t)
  | 0, t, kf, h, _, _, K => by have := dep_pos t; have := h.1; omega
  | n + 1, t, 0, _, _, h, K => by omega
  | n + 1, t, kf + 1, hf, hn, hk, K => by
    have hkl := kk_len t
    have hnk := nod_eq t
    have hkids := fun x hx => hf.kid (x := x) hx
    unfold yy33 yy33_b
    refine (rp_l2 (yy33 kf) kf (kd t) (stt t) (kk t) (by omega) (fun x hx K => rplain_ok n x kf (hkids x hx) (by have := nod_kid hx; omega) (by omega) K) K _ (kk t).length kf 0 (by omega) (by omega)).trans ?_
    rw [List.drop_zero, plT_eq]
    by_cases hpl : plL (kk t) = true
    rotate_left
    · rw [if_neg hpl]
      have : plL (kk t) = false := by cases h : plL (kk t) with | true => exact absurd h hpl | false => rfl
      rw [this, Bool.and_false]
    rw [if_pos hpl, hpl, Bool.and_true]
    have hplk := plL_iff.1 hpl
    have hcat := fun K : Int → List Int → List Sd → Option R => cat_ok kf n (by omega) (kk t) (by omega) hkids K
    have halt := fun K : Int → List Int → List Sd → Option R => alt_ok kf n (by omega) (kk t) (by omega) hkids K
    have hsame := fun (u : Sd) (K : Bool → Option R) => rsm_ok2 (n + 1) u t kf hf.1 (by omega) (by omega) K
    unfold formB
    dsimp only
    have hz : ∀ s : List Int, decide (s = List.replicate 4 (0 : Int)) = decide (s = ZS) := fun _ => rfl
    have e0 : decide (((kk t).length : Int) = 0) = decide ((kk t).length = 0) := by
      by_cases h : (kk t).length = 0
      · rw [decide_eq_true h, decide_eq_true (by omega)]
      · rw [decide_eq_false h, decide_eq_false (by omega)]
    have e1 : decide ((1 : Int) < ((kk t).length : Int)) = decide (1 < (kk t).length) := by
      by_cases h : 1 < (kk t).length
      · rw [decide_eq_true h, decide_eq_true (by omega)]
      · rw [decide_eq_false h, decide_eq_false (by omega)]
    have e2 : decide (((kk t).length : Int) = 1) = decide ((kk t).length = 1) := by
      by_cases h : (kk t).length = 1
      · rw [decide_eq_true h, decide_eq_true (by omega)]
      · rw [decide_eq_false h, decide_eq_false (by omega)]
    rw [e0, e1, e2]
    by_cases h1 : kd t = 1
    · rw [decide_eq_true h1, cond_true, cond_true, if_pos (Or.inl h1)]
      cases decide (stt t = ZS) <;> cases decide ((kk t).length = 0) <;> rfl
    rw [decide_eq_false h1, cond_false]
    by_cases h2 : kd t = 2
    · rw [decide_eq_true h2, cond_true, if_pos (Or.inr h2)]
      cases decide (stt t = ZS) <;> cases decide ((kk t).length = 0) <;> rfl
    rw [decide_eq_false h2, cond_false, if_neg (fun q => q.elim h1 h2)]
    by_cases h3 : kd t = 3
    · rw [decide_eq_true h3, cond_true, if_pos h3]
      cases decide (stt t = ZS) <;> cases decide ((kk t).length = 0) <;> rfl
    rw [decide_eq_false h3, cond_false, if_neg h3]
    by_cases h4 : kd t = 4
    · rw [decide_eq_true h4, cond_true, if_pos h4]
      by_cases hs : stt t = ZS
      rotate_left
      · rw [decide_eq_false hs]; rfl
      rw [decide_eq_true hs, cond_true, Bool.true_and]
      by_cases hl : 1 < (kk t).length
      rotate_left
      · rw [decide_eq_false hl]; rfl
      rw [decide_eq_true hl, cond_true, Bool.true_and, hcat]
      refine (hsame (catT (kk t)) _).trans ?_
      have ht : t = Rose.node (4, ZS, ()) (kk t) := by conv => lhs; rw [← eta t, h4, hs]
      have hiff := cat_plain hplk hl
      have hsi := sameT_iff _ (catT (kk t)) t (Nat.le_refl _)
      congr 1
      cases hb : badL (kk t) [4, 1, 2] with
      | false => rw [Bool.not_false]; exact hsi.2 (by rw [hiff.2 hb]; exact ht.symm)
      | true =>
        rw [Bool.not_true]
        cases hq : sameT (catT (kk t)) t with
        | false => rfl
        | true =>
          have := hiff.1 (by rw [hsi.1 hq]; exact ht)
          rw [hb] at this; cases this
    rw [decide_eq_false h4, cond_false, if_neg h4]
    by_cases h5 : kd t = 5
    · rw [decide_eq_true h5, cond_true, if_pos h5]
      by_cases hs : stt t = ZS
      rotate_left
      · rw [decide_eq_false hs]; rfl
      rw [decide_eq_true hs, cond_true, Bool.true_and]
      by_cases hl : 1 < (kk t).length
      rotate_left
      · rw [decide_eq_false hl]; rfl
      rw [decide_eq_true hl, cond_true, Bool.true_and, halt]
      refine (hsame (altT (kk t)) _).trans ?_
      have ht : t = Rose.node (5, ZS, ()) (kk t) := by conv => lhs; rw [← eta t, h5, hs]
      have hiff := alt_plain hplk hkids hl
      have hsi := sameT_iff _ (altT (kk t)) t (Nat.le_refl _)
      congr 1
      cases hq : sameT (altT (kk t)) t with
      | true =>
        obtain ⟨a1, a2, a3⟩ := hiff.1 (by rw [hsi.1 hq]; exact ht)
        rw [a1, a2, decide_eq_true a3]; rfl
      | false =>
        cases hb : badL (kk t) [5, 1] with
        | true => rfl
        | false =>
          cases hr : riseL (kk t) with
          | false => rfl
          | true =>
            by_cases hn : setsN (kk t) ≤ 1
            · have := hsi.2 (by rw [hiff.2 ⟨hb, hr, hn⟩]; exact ht.symm)
              rw [hq] at this; cases this
            · rw [decide_eq_false hn]; rfl
    rw [decide_eq_false h5, cond_false, if_neg h5]
    by_cases h6 : kd t = 6
    · rw [decide_eq_true h6, cond_true, if_pos h6]
      by_cases hs : stt t = ZS
      rotate_left
      · rw [decide_eq_false hs]; rfl
      rw [decide_eq_true hs, cond_true, Bool.true_and]
      by_cases hl : (kk t).length = 1
      rotate_left
      · rw [decide_eq_false hl]; rfl
      rw [decide_eq_true hl, cond_true, Bool.true_and, decide_eq_true (show (0 : Int) < ((kk t).length : Int) by omega)]
      simp only [gdt]
      obtain ⟨x, hx⟩ : ∃ x, kk t = [x] := List.length_eq_one_iff.1 hl
      rw [hx]
      show (bif !decide (kd x = 6) then bif !decide (kd x = 2) then K (!decide (kd x = 1)) else K false else K false) = K (!(decide (kd x ∈ ([6, 1, 2] : List Int)) || false))
      rw [Bool.or_false]
      by_cases q6 : kd x = 6
      · rw [q6]; rfl
      by_cases q2 : kd x = 2
      · rw [q2]; rfl
      by_cases q1 : kd x = 1
      · rw [q1]; rfl
      rw [decide_eq_false q6, decide_eq_false q2, decide_eq_false q1, decide_eq_false (show kd x ∉ ([6, 1, 2] : List Int) by simp; omega)]; rfl
    · rw [decide_eq_false h6, cond_false, if_neg h6]
end Go.Ab.T

/- Shown: signs, and the texts of sets. -/
namespace Go.Ab.T
open Go Go.Ab
set_option linter.unusedVariables false
set_option linter.unusedSimpArgs false
set_option maxRecDepth 20000
abbrev ESC : List Int := [92, 124, 42, 43, 63, 40, 41, 91, 93, 94, 45, 46]
abbrev HEX : List Int := [48, 49, 50, 51, 52, 53, 54, 55, 56, 57, 97, 98, 99, 100, 101, 102]
def signT (c : Int) : List Int := if c ∈ ESC then [92, c] else if 32 ≤ c ∧ c ≤ 126 then [c] else [92, 120, HEX.getD (c / 16).toNat 0, HEX.getD (c % 16).toNat 0]
theorem shr4 (c : Int) (h : 0 ≤ c ∧ c ≤ 255) : shr .u8 c 4 = c / 16 := by
  unfold shr
  rw [wall_eq, show (2 : Int) ^ (min (4 : Int).toNat IntKind.u8.bits) = 16 by decide, Int.fdiv_eq_ediv_of_nonneg _ (by omega)]
theorem and15 (c : Int) (h : 0 ≤ c ∧ c ≤ 255) : bvop .u8 .and c 15 = c % 16 := by
  obtain ⟨n, rfl⟩ := Int.eq_ofNat_of_zero_le h.1
  show wall _ = _
  rw [wall_eq]
  have e1 : (BitVec.ofInt 8 (n : Int) &&& BitVec.ofInt 8 15).toNat = n % 16 := by
    rw [BitVec.toNat_and]
    have a1 : (BitVec.ofInt 8 (n : Int)).toNat = n := by
      rw [BitVec.toNat_ofInt]
      omega
    have a2 : (BitVec.ofInt 8 15).toNat = 2 ^ 4 - 1 := by decide
    rw [a1, a2, Nat.and_two_pow_sub_one_eq_mod]
  rw [show (BitVec.ofInt IntKind.u8.bits (n : Int) &&& BitVec.ofInt IntKind.u8.bits 15).toNat = n % 16 from e1, IntKind.wrap_u8]
  omega
theorem sign_ok {R : Type} (c : Int) (h : 0 ≤ c ∧ c ≤ 255) (K : List Int → Option R) : yy60 c K = K (signT c) := by
  unfold yy60 yy60_b signT
  rw [shr4 c h, and15 c h]
  by_cases hm : c ∈ ESC
  · rw [if_pos hm]
    have : decide (0 ≤ idxB ESC c) = true := by
      revert hm
      intro hm
      simp only [List.mem_cons, List.not_mem_nil, or_false] at hm
      rcases hm with rfl | rfl | rfl | rfl | rfl | rfl | rfl | rfl | rfl | rfl | rfl | rfl <;> rfl
    rw [this, cond_true, gd_true (small_of (by simp))]; rfl
  · rw [if_neg hm]
    have hi : idxB ESC c = -1 := idxB_none _ c fun x hx q => hm (by rw [← q]; exact hx)
    rw [hi, show decide ((0 : Int) ≤ -1) = false from rfl, cond_false]
    have tail : (gd (decide (0 ≤ c / 16)) (gd (decide (c / 16 < (HEX.length : Int))) (gd (decide (0 ≤ c % 16)) (gd (decide (c % 16 < (HEX.length : Int))) (gd (decide ([92, 120].length + ([(HEX.getD (Int.toNat (c / 16)) 0), (HEX.getD (Int.toNat (c % 16)) 0)] : List Int).length < SMALL)) (K ([92, 120] ++ ([(HEX.getD (Int.toNat (c / 16)) 0), (HEX.getD (Int.toNat (c % 16)) 0)] : List Int)))))))) = K [92, 120, HEX.getD (c / 16).toNat 0, HEX.getD (c % 16).toNat 0] := by
      have hl : (HEX.length : Int) = 16 := rfl
      rw [hl, gd_true (decide_eq_true (by omega)), gd_true (decide_eq_true (by omega)), gd_true (decide_eq_true (by omega)), gd_true (decide_eq_true (by omega)), gd_true (small_of (by simp))]; rfl
    by_cases h1 : c < 32
    · rw [decide_eq_true h1, cond_true, if_neg (by omega)]; exact tail
    rw [decide_eq_false h1, cond_false]
    by_cases h2 : 126 < c
    · rw [decide_eq_true h2, cond_true, if_neg (by omega)]; exact tail
    rw [decide_eq_false h2, cond_false, if_pos (by omega)]
theorem rin_l2 {R : Type} (kf : Nat) (l : List Int) (c : Int) (hl : l.length ≤ 100) (K : Bool → Option R) : ∀ (m k i : Nat), i + m = l.length → m < k → yy40_l2 kf k l c (fun v => K v) (K false) (i : Int) = K (decide (c ∈ l.drop i))
  | m, 0, i, _, h => by omega
  | 0, k + 1, i, hi, _ => by
    unfold yy40_l2 yy40_l2_b
    rw [decide_eq_false (by omega), cond_false, List.drop_eq_nil_of_le (by omega)]; rfl
  | m + 1, k + 1, i, hi, hk => by
    have g0 : decide (0 ≤ (i : Int)) = true := decide_eq_true (by omega)
    have g1 : decide ((i : Int) < (l.length : Int)) = true := decide_eq_true (by omega)
    unfold yy40_l2 yy40_l2_b
    rw [getD_drop l i (by omega) 0]
    simp only [g0, g1, gdt, cond_true]
    rw [show Int.toNat (i : Int) = i from rfl]
    by_cases h : l.getD i 0 = c
    · rw [decide_eq_true h, cond_true, decide_eq_true (show c ∈ l.getD i 0 :: l.drop (i + 1) by rw [h]; exact List.mem_cons_self)]
    · rw [decide_eq_false h, cond_false, wi1s i (by omega), rin_l2 kf l c hl K m k (i + 1) (by omega) (by omega)]
      congr 1
      by_cases h2 : c ∈ l.drop (i + 1)
      · rw [decide_eq_true h2, decide_eq_true (List.mem_cons_of_mem _ h2)]
      · rw [decide_eq_false h2, decide_eq_false (fun q => by rcases List.mem_cons.1 q with q | q; exact h q.symm; exact h2 q)]
theorem rin_ok {R : Type} (kf : Nat) (hkf : 200 ≤ kf) (l : List Int) (c : Int) (hl : l.length ≤ 100) (K : Bool → Option R) : yy40 kf l c K = K (decide (c ∈ l)) := by
  unfold yy40 yy40_b
  exact rin_l2 kf l c hl K l.length kf 0 (by omega) (by omega)
theorem signT_len (c : Int) : 1 ≤ (signT c).length ∧ (signT c).length ≤ 4 := by
  unfold signT
  split
  · exact ⟨by simp, by simp⟩
  split
  · exact ⟨by simp, by simp⟩
  · exact ⟨by simp, by simp⟩
def endR (l : List Int) : Nat → Nat → Nat
  | 0, i => i
  | m + 1, i => if i + 1 < l.length ∧ l.getD (i + 1) 0 = IntKind.u8.wrap (l.getD i 0 + 1) then endR l m (i + 1) else i
theorem endR_ge (l : List Int) : ∀ (m i : Nat), i ≤ endR l m i ∧ (i < l.length → endR l m i < l.length)
  | 0, i => ⟨Nat.le_refl _, id⟩
  | m + 1, i => by
    unfold endR
    split
    · rename_i h
      obtain ⟨a, b⟩ := endR_ge l m (i + 1)
      exact ⟨by omega, fun _ => b h.1⟩
    · exact ⟨Nat.le_refl _, id⟩
def pieceT (l : List Int) (i k : Nat) : List Int := signT (l.getD i 0) ++ ((if i + 1 < k then [45] else []) ++ (if i < k then signT (l.getD k 0) else []))
def runsT (l : List Int) : Nat → Nat → List Int
  | 0, _ => []
  | m + 1, i => if i < l.length then pieceT l i (endR l l.length i) ++ runsT l m (endR l l.length i + 1) else []
theorem pieceT_len (l : List Int) (i k : Nat) : (pieceT l i k).length ≤ 9 := by
  unfold pieceT
  have h1 := signT_len (l.getD i 0)
  have h2 := signT_len (l.getD k 0)
  simp only [List.length_append]
  split <;> split <;> simp only [List.length_nil, List.length_singleton] <;> omega
theorem runsT_len (l : List Int) : ∀ (m i : Nat), (runsT l m i).length ≤ 9 * m
  | 0, i => by simp [runsT]
  | m + 1, i => by
    unfold runsT
    split
    · rw [List.length_append]
      have := pieceT_len l i (endR l l.length i)
      have := runsT_len l m (endR l l.length i + 1)
      omega
    · simp
noncomputable def setT (s : List Int) : List Int :=
  if (listOf (mem s)).length = 256 then [46] else if (listOf (mem s)).length = 1 then signT ((listOf (mem s)).getD 0 0) else 91 :: (runsT (listOf (mem s)) (listOf (mem s)).length 0 ++ [93])
theorem setT_len (s : List Int) : 1 ≤ (setT s).length ∧ (setT s).length ≤ 2400 := by
  have h0 := listOf_length (mem s)
  unfold setT
  split
  · simp
  split
  · have := signT_len ((listOf (mem s)).getD 0 0); omega
  · have := runsT_len (listOf (mem s)) (listOf (mem s)).length 0
    simp only [List.length_cons, List.length_append, List.length_nil]; omega
def Wr (t : List Int) (o : Bool) (b : List Int) (o' : Bool) (b' : List Int) : Prop :=
  o' = (o || decide (4000 < b.length + t.length)) ∧ (o' = false → b' = b ++ t) ∧ b'.length ≤ b.length + t.length
theorem Wr.trans {t u : List Int} {o o1 o2 : Bool} {b b1 b2 : List Int} (h : Wr t o b o1 b1) (g : Wr u o1 b1 o2 b2) : Wr (t ++ u) o b o2 b2 := by
  obtain ⟨h1, h2, h3⟩ := h
  obtain ⟨g1, g2, g3⟩ := g
  refine ⟨?_, fun q => ?_, by rw [List.length_append]; omega⟩
  · cases ho : o1 with
    | true =>
      rw [ho] at h1 g1
      rw [g1, Bool.true_or]
      cases o with
      | true => rfl
      | false =>
        rw [Bool.false_or] at h1 ⊢
        have := of_decide_eq_true h1.symm
        exact (decide_eq_true (by rw [List.length_append]; omega)).symm
    | false =>
      have hb := h2 ho
      rw [ho] at h1 g1
      have ho' : o = false := by cases o with | true => rw [Bool.true_or] at h1; cases h1 | false => rfl
      rw [g1, ho', Bool.false_or, Bool.false_or, hb, List.length_append, List.length_append, Nat.add_assoc]
  · have ho : o1 = false := by cases ho : o1 with | true => rw [ho] at g1; rw [g1, Bool.true_or] at q; cases q | false => rfl
    rw [g2 q, h2 ho, List.append_assoc]
theorem Wr.nil (o : Bool) (b : List Int) (h : o = true ∨ b.length ≤ 4000) : Wr [] o b o b := by
  refine ⟨?_, fun _ => by rw [List.append_nil], by simp⟩
  rcases h with rfl | h
  · rfl
  · rw [decide_eq_false (by simp; omega), Bool.or_false]
theorem put_w {R : Type} (s : List Int) (o : Bool) (b : List Int) (h : b.length + s.length ≤ 100000000) : Wr s o b (o || decide (4000 < b.length + s.length)) (b ++ s) ∧ ∀ K : Bool → List Int → Option R, yy61 s o b K = K (o || decide (4000 < b.length + s.length)) (b ++ s) := by
  refine ⟨⟨rfl, fun _ => rfl, by rw [List.length_append]; omega⟩, fun K => ?_⟩
  unfold yy61 yy61_b
  rw [gd_true (small_of (by omega)), List.length_append]
  by_cases h1 : 4000 < b.length + s.length
  · rw [decide_eq_true (by omega), cond_true, decide_eq_true h1, Bool.or_true]
  · rw [decide_eq_false (by omega), cond_false, decide_eq_false h1, Bool.or_false]
theorem sl11 {R : Type} (kf : Nat) (l : List Int) (hl : l.length ≤ 256) (i0 : Int) (o : Bool) (b : List Int) (Ke : Int → Int → Bool → List Int → List Int → Option R) : ∀ (m k i : Nat), i + m = l.length → m < k → i < l.length →
    yy63_l11 kf k i0 o l b Ke (i : Int) = Ke i0 ((endR l m i : Nat) : Int) o l b
  | m, 0, i, _, h, _ => by omega
  | 0, k + 1, i, hi, _, h => by omega
  | m + 1, k + 1, i, hi, hk, h => by
    unfold yy63_l11 yy63_l11_b endR
    rw [wi1s i (by omega)]
    by_cases h1 : i + 1 < l.length
    · have g0 : decide (0 ≤ (i : Int)) = true := decide_eq_true (by omega)
      have g1 : decide ((i : Int) < (l.length : Int)) = true := decide_eq_true (by omega)
      have g2 : decide (((i + 1 : Nat) : Int) < (l.length : Int)) = true := decide_eq_true (by omega)
      have g3 : decide (0 ≤ ((i + 1 : Nat) : Int)) = true := decide_eq_true (by omega)
      simp only [g0, g1, g2, g3, gdt, cond_true]
      rw [show Int.toNat ((i + 1 : Nat) : Int) = i + 1 from rfl, show Int.toNat (i : Int) = i from rfl]
      by_cases h2 : l.getD (i + 1) 0 = IntKind.u8.wrap (l.getD i 0 + 1)
      · rw [decide_eq_true h2, cond_true, if_pos ⟨h1, h2⟩]
        exact sl11 kf l hl i0 o b Ke m k (i + 1) (by omega) (by omega) h1
      · rw [decide_eq_false h2, cond_false, if_neg fun q => h2 q.2]
    · rw [decide_eq_false (by omega), cond_false, if_neg fun q => h1 q.1]
theorem endR_more (l : List Int) : ∀ (m i k : Nat), l.length ≤ i + m → m ≤ k → endR l m i = endR l k i
  | 0, i, k, h, _ => by
    cases k with
    | zero => rfl
    | succ k => unfold endR; rw [if_neg (by omega)]
  | m + 1, i, 0, h, hk => by omega
  | m + 1, i, k + 1, h, hk => by
    unfold endR
    split
    · exact endR_more l m (i + 1) k (by omega) (by omega)
    · rfl
theorem sl9 {R : Type} (kf : Nat) (hkf : 1000 ≤ kf) (l : List Int) (hl : l.length ≤ 256) (hb : isB l) : ∀ (m k i : Nat) (o : Bool) (b : List Int), l.length ≤ i + m → m + 300 < k → b.length + 9 * m ≤ 10000000 → (o = true ∨ b.length ≤ 4000) →
    ∃ o' b', Wr (runsT l m i) o b o' b' ∧ ∀ Ke : Bool → List Int → Option R, yy63_l9 kf k Ke (i : Int) o l b = Ke o' b'
  | m, 0, i, o, b, _, h, _, _ => by omega
  | 0, k + 1, i, o, b, hi, _, _, hob => by
    refine ⟨o, b, Wr.nil o b hob, fun Ke => ?_⟩
    unfold yy63_l9 yy63_l9_b
    rw [decide_eq_false (by omega), cond_false]
  | m + 1, k + 1, i, o, b, hi, hk, hbl, hob => by
    by_cases h : i < l.length
    rotate_left
    · refine ⟨o, b, by unfold runsT; rw [if_neg h]; exact Wr.nil o b hob, fun Ke => ?_⟩
      unfold yy63_l9 yy63_l9_b
      rw [decide_eq_false (by omega), cond_false]
    obtain ⟨e1, e2⟩ := endR_ge l l.length i
    have e2 := e2 h
    have hbi := hb _ (getD_mem l i h 0)
    have hbk := hb _ (getD_mem l (endR l l.length i) e2 0)
    have hpl := pieceT_len l i (endR l l.length i)
    have h3 : endR l (l.length - i) i = endR l l.length i := endR_more l _ i _ (by omega) (by omega)
    generalize hk0 : endR l l.length i = q at *
    have hp : ∃ o1 b1, Wr (pieceT l i q) o b o1 b1 ∧ ∀ K : Bool → List Int → Option R, (yy60 (l.getD i 0) (fun (v26 : List Int) =>
         yy61 v26 o b (fun (v27 : Bool) (v28 : List Int) =>
          let j34 : Bool → List Int → Option R := fun v29 v30 =>
          (bif decide ((i : Int) < (q : Int)) then
           (gd (decide (0 ≤ (q : Int)))
            (gd (decide ((q : Int) < (l.length : Int)))
             (yy60 (l.getD q 0) (fun (v31 : List Int) =>
               yy61 v31 v29 v30 (fun (v32 : Bool) (v33 : List Int) => K v32 v33)))))
           else (K v29 v30))
          (bif decide (((i + 1 : Nat) : Int) < (q : Int)) then
           (yy61 ([45]) v27 v28 (fun (v35 : Bool) (v36 : List Int) =>
             j34 v35 v36))
           else (j34 v27 v28))))) = K o1 b1 := by
      have s1 := signT_len (l.getD i 0)
      have s2 := signT_len (l.getD q 0)
      obtain ⟨w1, p1⟩ := put_w (R := R) (signT (l.getD i 0)) o b (by omega)
      have l1 := w1.2.2
      by_cases q1 : i + 1 < q
      · obtain ⟨w2, p2⟩ := put_w (R := R) [45] _ (b ++ signT (l.getD i 0)) (by rw [List.length_append, List.length_singleton]; omega)
        obtain ⟨w3, p3⟩ := put_w (R := R) (signT (l.getD q 0)) _ (b ++ signT (l.getD i 0) ++ [45]) (by simp only [List.length_append, List.length_singleton]; omega)
        have ep : pieceT l i q = signT (l.getD i 0) ++ ([45] ++ signT (l.getD q 0)) := by unfold pieceT; rw [if_pos q1, if_pos (by omega)]
        have w := w1.trans (w2.trans w3)
        rw [← ep] at w
        refine ⟨_, _, w, fun K => ?_⟩
        rw [sign_ok _ hbi, p1]
        dsimp only
        rw [decide_eq_true (by omega), cond_true, p2, decide_eq_true (by omega), cond_true, gd_true (decide_eq_true (by omega)), gd_true (decide_eq_true (by omega)), sign_ok _ hbk, p3]
      · by_cases q2 : i < q
        · obtain ⟨w3, p3⟩ := put_w (R := R) (signT (l.getD q 0)) (o || decide (4000 < b.length + (signT (l.getD i 0)).length)) (b ++ signT (l.getD i 0)) (by simp only [List.length_append]; omega)
          have ep : pieceT l i q = signT (l.getD i 0) ++ signT (l.getD q 0) := by unfold pieceT; rw [if_neg q1, if_pos q2, List.nil_append]
          have w := w1.trans w3
          rw [← ep] at w
          refine ⟨_, _, w, fun K => ?_⟩
          rw [sign_ok _ hbi, p1]
          dsimp only
          rw [decide_eq_false (by omega), cond_false, decide_eq_true (by omega), cond_true, gd_true (decide_eq_true (by omega)), gd_true (decide_eq_true (by omega)), sign_ok _ hbk, p3]
        · have ep : pieceT l i q = signT (l.getD i 0) := by unfold pieceT; rw [if_neg q1, if_neg q2, List.nil_append, List.append_nil]
          rw [← ep] at w1
          refine ⟨_, _, w1, fun K => ?_⟩
          rw [sign_ok _ hbi, p1]
          dsimp only
          rw [decide_eq_false (by omega), cond_false, decide_eq_false (by omega), cond_false, ep]
    obtain ⟨o1, b1, w, hK⟩ := hp
    have hwl := w.2.2
    have hob1 : o1 = true ∨ b1.length ≤ 4000 := by
      cases ho1 : o1 with
      | true => exact Or.inl rfl
      | false =>
        right
        have a1 := w.1
        have a2 := w.2.1 ho1
        rw [ho1] at a1
        have : decide (4000 < b.length + (pieceT l i q).length) = false := by
          cases o with
          | true => rw [Bool.true_or] at a1; cases a1
          | false => rw [Bool.false_or] at a1; exact a1.symm
        have := of_decide_eq_false this
        rw [a2, List.length_append]; omega
    obtain ⟨o2, b2, w2, hK2⟩ := sl9 (R := R) kf hkf l hl hb m k (q + 1) o1 b1 (by omega) (by omega) (by omega) hob1
    refine ⟨o2, b2, by unfold runsT; rw [if_pos h, hk0]; exact w.trans w2, fun Ke => ?_⟩
    unfold yy63_l9 yy63_l9_b
    rw [decide_eq_true (by omega), cond_true]
    refine (sl11 kf l hl (i : Int) o b _ (l.length - i) k i (by omega) (by omega) h).trans ?_
    rw [h3, gd_true (decide_eq_true (by omega)), gd_true (decide_eq_true (by omega)), wi1s i (by omega), wi1s q (by omega), show Int.toNat (i : Int) = i from rfl, show Int.toNat (q : Int) = q from rfl]
    exact (hK fun v29 v30 => yy63_l9 kf k Ke ((q + 1 : Nat) : Int) v29 l v30).trans (hK2 Ke)
theorem set_w {R : Type} (kf : Nat) (hkf : 3000 ≤ kf) (s : List Int) (hs : isSet s) (o : Bool) (b : List Int) (hbl : b.length ≤ 9000000) (hob : o = true ∨ b.length ≤ 4000) :
    ∃ o' b', Wr (setT s) o b o' b' ∧ ∀ K : Bool → List Int → Option R, yy63 kf s o b K = K o' b' := by
  have hll := listOf_length (mem s)
  have hlb := listOf_isB (mem s)
  have hlist : ∀ K : List Int → Option R, yy2 kf s K = K (listOf (mem s)) := fun K => by
    have := list_s (R := R) kf (by omega) (mem s) K
    rwa [setOf_mem hs] at this
  unfold yy63 yy63_b setT
  generalize listOf (mem s) = l at *
  by_cases h1 : l.length = 256
  · rw [if_pos h1]
    obtain ⟨w, p⟩ := put_w (R := R) [46] o b (by simp; omega)
    refine ⟨_, _, w, fun K => ?_⟩
    rw [hlist, decide_eq_true (by omega), cond_true, p]
  rw [if_neg h1]
  by_cases h2 : l.length = 1
  · rw [if_pos h2]
    have s1 := signT_len (l.getD 0 0)
    obtain ⟨w, p⟩ := put_w (R := R) (signT (l.getD 0 0)) o b (by omega)
    refine ⟨_, _, w, fun K => ?_⟩
    rw [hlist, decide_eq_false (by omega), cond_false, decide_eq_true (by omega), cond_true, gd_true (decide_eq_true (by omega)), sign_ok _ (hlb _ (getD_mem l 0 (by omega) 0)), p]
  rw [if_neg h2]
  obtain ⟨w1, p1⟩ := put_w (R := R) [91] o b (by simp; omega)
  have hob1 : (o || decide (4000 < b.length + [(91 : Int)].length)) = true ∨ (b ++ [(91 : Int)]).length ≤ 4000 := by
    rw [List.length_append]
    by_cases q : 4000 < b.length + [(91 : Int)].length
    · left; rw [decide_eq_true q, Bool.or_true]
    · right; omega
  obtain ⟨o2, b2, w2, p2⟩ := sl9 (R := R) kf (by omega) l hll hlb l.length kf 0 _ (b ++ [91]) (by omega) (by omega) (by simp; omega) hob1
  have l2 := w2.2.2
  have lr := runsT_len l l.length 0
  obtain ⟨w3, p3⟩ := put_w (R := R) [93] o2 b2 (by rw [List.length_append] at l2; simp at l2 ⊢; omega)
  refine ⟨_, _, w1.trans (w2.trans w3), fun K => ?_⟩
  rw [hlist, decide_eq_false (by omega), cond_false, decide_eq_false (by omega), cond_false, p1]
  refine (p2 _).trans ?_
  exact p3 _
end Go.Ab.T

/- Shown: texts, the program's and the reference's. -/
namespace Go.Ab.T
open Go Go.Ab
set_option linter.unusedVariables false
set_option linter.unusedSimpArgs false
set_option maxRecDepth 20000
mutual
noncomputable def textT : Sd → List Int
  | .node l ks => if l.1 = 1 then [91, 93] else if l.1 = 2 then [40, 41] else if l.1 = 3 then setT l.2.1 else if l.1 = 6 then starX ks else if l.1 = 4 then catX ks else altX true ks
noncomputable def starX : List Sd → List Int
  | [] => []
  | x :: _ => (if kd x = 4 ∨ kd x = 5 then [40] ++ (textT x ++ [41]) else textT x) ++ [42]
noncomputable def catX : List Sd → List Int
  | [] => []
  | x :: r => (if kd x = 5 then [40] ++ (textT x ++ [41]) else textT x) ++ catX r
noncomputable def altX : Bool → List Sd → List Int
  | _, [] => []
  | f, x :: r => (if f = true then [] else [124]) ++ ((if kd x = 2 then [] else textT x) ++ altX false r)
end
theorem textT_eq (t : Sd) : textT t = if kd t = 1 then [91, 93] else if kd t = 2 then [40, 41] else if kd t = 3 then setT (stt t) else if kd t = 6 then starX (kk t) else if kd t = 4 then catX (kk t) else altX true (kk t) := by
  obtain ⟨l, ks⟩ := t; rfl
theorem text_len : ∀ (n : Nat) (t : Sd), dep t ≤ n → (textT t).length + 10 ≤ 3010 * nod t
  | 0, t, h => by have := dep_pos t; omega
  | n + 1, t, h => by
    have hn := nod_eq t
    have kids : ∀ x ∈ kk t, (textT x).length + 10 ≤ 3010 * nod x := fun x hx => text_len n x (by have := dep_kid hx; omega)
    have hcat : ∀ l : List Sd, (∀ x ∈ l, (textT x).length + 10 ≤ 3010 * nod x) → (catX l).length ≤ 3010 * nodL l ∧ ∀ f, (altX f l).length ≤ 3010 * nodL l := by
      intro l
      induction l with
      | nil => intro _; exact ⟨by simp [catX], fun f => by simp [altX]⟩
      | cons x r ih =>
        intro hx
        obtain ⟨i1, i2⟩ := ih fun y hy => hx y (by simp [hy])
        have h1 := hx x (by simp)
        rw [show nodL (x :: r) = nod x + nodL r from rfl]
        refine ⟨?_, fun f => ?_⟩
        · unfold catX
          rw [List.length_append]
          split
          · simp only [List.length_append, List.length_singleton]; omega
          · omega
        · have i2 := i2 false
          unfold altX
          rw [List.length_append, List.length_append]
          split <;> split <;> simp only [List.length_nil, List.length_singleton] <;> omega
    rw [textT_eq]
    split
    · have := nod_pos t; simp; omega
    split
    · have := nod_pos t; simp; omega
    split
    · have := setT_len (stt t); have := nod_pos t; omega
    split
    · cases hk : kk t with
      | nil => have := nod_pos t; simp [starX]; omega
      | cons x r =>
        have h1 := kids x (by rw [hk]; simp)
        rw [hn, hk, show nodL (x :: r) = nod x + nodL r from rfl]
        unfold starX
        rw [List.length_append]
        split
        · simp only [List.length_append, List.length_singleton]; omega
        · simp only [List.length_singleton]; omega
    split
    · have := (hcat (kk t) kids).1; omega
    · have := (hcat (kk t) kids).2 true; omega
theorem catX_drop {l : List Sd} {i : Nat} (h : i < l.length) : catX (l.drop i) = (if kd (l.getD i DD) = 5 then [40] ++ (textT (l.getD i DD) ++ [41]) else textT (l.getD i DD)) ++ catX (l.drop (i + 1)) := by
  rw [getD_drop l i h DD]; rfl
theorem altX_drop {l : List Sd} {i : Nat} (h : i < l.length) (f : Bool) : altX f (l.drop i) = (if f = true then [] else [124]) ++ ((if kd (l.getD i DD) = 2 then [] else textT (l.getD i DD)) ++ altX false (l.drop (i + 1))) := by
  rw [getD_drop l i h DD]; rfl
end Go.Ab.T

/- Shown: what Show answers; the law ShowAll. -/
namespace Go.Ab.T
open Go Go.Ab
set_option linter.unusedVariables false
set_option linter.unusedSimpArgs false
set_option maxRecDepth 20000
theorem Wr.ob {t : List Int} {o o' : Bool} {b b' : List Int} (h : Wr t o b o' b') : o' = true ∨ b'.length ≤ 4000 := by
  obtain ⟨h1, h2, h3⟩ := h
  cases ho : o' with
  | true => exact Or.inl rfl
  | false =>
    right
    rw [h2 ho, List.length_append]
    rw [ho] at h1
    cases o with
    | true => rw [Bool.true_or] at h1; cases h1
    | false =>
      rw [Bool.false_or] at h1
      have := of_decide_eq_false h1.symm
      omega
def WrT (R : Type) (t : List Int) (o : Bool) (b : List Int) (f : (Bool → List Int → Option R) → Option R) : Prop := ∃ o' b', Wr t o b o' b' ∧ ∀ K, f K = K o' b'
theorem put_wt {R : Type} (s : List Int) (o : Bool) (b : List Int) (h : b.length + s.length ≤ 100000000) : WrT R s o b (yy61 s o b) := ⟨_, _, (put_w (R := R) s o b h).1, (put_w s o b h).2⟩
theorem WrT.seq {R : Type} {t u : List Int} {o : Bool} {b : List Int} {f : (Bool → List Int → Option R) → Option R} {g : Bool → List Int → (Bool → List Int → Option R) → Option R} (h : WrT R t o b f) (hg : ∀ o1 b1, Wr t o b o1 b1 → WrT R u o1 b1 (g o1 b1)) : WrT R (t ++ u) o b fun K => f fun o1 b1 => g o1 b1 K := by
  obtain ⟨o1, b1, w1, p1⟩ := h
  obtain ⟨o2, b2, w2, p2⟩ := hg o1 b1 w1
  exact ⟨o2, b2, w1.trans w2, fun K => (p1 _).trans (p2 K)⟩
theorem within_w {R : Type} (c : Int → List Int → List Sd → Bool → List Int → (Bool → List Int → Option R) → Option R) (kf : Nat) (hkf : 200 ≤ kf) (x : Sd) (l : List Int) (hl : l.length ≤ 100)
    (hx : ∀ o b, b.length + (textT x).length ≤ 9000000 → (o = true ∨ b.length ≤ 4000) → WrT R (textT x) o b (c (kd x) (stt x) (kk x) o b)) (o : Bool) (b : List Int) (hb : b.length + (if kd x ∈ l then [40] ++ (textT x ++ [41]) else textT x).length ≤ 9000000) (ho : o = true ∨ b.length ≤ 4000) :
    WrT R (if kd x ∈ l then [40] ++ (textT x ++ [41]) else textT x) o b (yy64 c kf (kd x) (stt x) (kk x) l o b) := by
  have e : ∀ K : Bool → List Int → Option R, yy64 c kf (kd x) (stt x) (kk x) l o b K = if kd x ∈ l then yy61 [40] o b (fun o1 b1 => c (kd x) (stt x) (kk x) o1 b1 fun o2 b2 => yy61 [41] o2 b2 K) else c (kd x) (stt x) (kk x) o b K := by
    intro K
    unfold yy64 yy64_b
    rw [contains_ok kf hkf l hl]
    by_cases h : kd x ∈ l
    · rw [decide_eq_true h, if_pos h]; rfl
    · rw [decide_eq_false h, if_neg h]; rfl
  by_cases h : kd x ∈ l
  · simp only [h, if_true, List.length_append, List.length_singleton] at e hb ⊢
    obtain ⟨o', b', w, p⟩ := (put_wt (R := R) [40] o b (by simp; omega)).seq (g := fun o1 b1 K => c (kd x) (stt x) (kk x) o1 b1 fun o2 b2 => yy61 [41] o2 b2 K) fun o1 b1 w1 =>
      (hx o1 b1 (by have := w1.2.2; simp at this; omega) w1.ob).seq (g := fun o2 b2 K => yy61 [41] o2 b2 K) fun o2 b2 w2 => put_wt [41] o2 b2 (by have := w1.2.2; have := w2.2.2; simp at *; omega)
    exact ⟨o', b', w, fun K => (e K).trans (p K)⟩
  · simp only [h, if_false] at e hb ⊢
    obtain ⟨o', b', w, p⟩ := hx o b (by omega) ho
    exact ⟨o', b', w, fun K => (e K).trans (p K)⟩
theorem wl11 {R : Type} (c : Int → List Int → List Sd → Bool → List Int → (Bool → List Int → Option R) → Option R) (kf : Nat) (hkf : 200 ≤ kf) (ks : List Sd) (hl : ks.length ≤ 100000)
    (hx : ∀ x ∈ ks, ∀ o b, b.length + (textT x).length ≤ 9000000 → (o = true ∨ b.length ≤ 4000) → WrT R (textT x) o b (c (kd x) (stt x) (kk x) o b)) :
    ∀ (m k i : Nat) (o : Bool) (b : List Int), i + m = ks.length → m < k → b.length + (catX (ks.drop i)).length ≤ 9000000 → (o = true ∨ b.length ≤ 4000) →
    WrT R (catX (ks.drop i)) o b fun Ke => yy62_l11 c kf k ks (ks.length : Int) Ke (i : Int) o b
  | m, 0, i, o, b, _, h, _, _ => by omega
  | 0, k + 1, i, o, b, hi, _, _, ho => by
    refine ⟨o, b, by rw [List.drop_eq_nil_of_le (by omega)]; exact Wr.nil o b ho, fun Ke => ?_⟩
    unfold yy62_l11 yy62_l11_b
    rw [decide_eq_false (by omega)]
    rfl
  | m + 1, k + 1, i, o, b, hi, hk, hb, ho => by
    have g0 : decide (0 ≤ (i : Int)) = true := decide_eq_true (by omega)
    have g1 : decide ((i : Int) < (ks.length : Int)) = true := decide_eq_true (by omega)
    have hxx := hx _ (getD_mem ks i (by omega) DD)
    have hd := catX_drop (l := ks) (i := i) (by omega)
    rw [hd] at hb ⊢
    rw [List.length_append] at hb
    have e : ∀ Ke : Bool → List Int → Option R, yy62_l11 c kf (k + 1) ks (ks.length : Int) Ke (i : Int) o b = yy64 c kf (kd (ks.getD i DD)) (stt (ks.getD i DD)) (kk (ks.getD i DD)) [5] o b (fun o1 b1 => yy62_l11 c kf k ks (ks.length : Int) Ke ((i + 1 : Nat) : Int) o1 b1) := by
      intro Ke
      rw [yy62_l11]
      unfold yy62_l11_b
      simp only [g0, g1, gdt, cond_true]
      rw [show Int.toNat (i : Int) = i from rfl, wi1s i (by omega)]
    have e5 : (kd (ks.getD i DD) ∈ ([5] : List Int)) = (kd (ks.getD i DD) = 5) := by simp
    have hw := within_w c kf hkf (ks.getD i DD) [5] (by simp) hxx o b (by simp only [e5]; omega) ho
    simp only [e5] at hw
    obtain ⟨o', b', w, p⟩ := hw.seq (g := fun o1 b1 Ke => yy62_l11 c kf k ks (ks.length : Int) Ke ((i + 1 : Nat) : Int) o1 b1) fun o1 b1 w1 =>
      wl11 c kf hkf ks hl hx m k (i + 1) o1 b1 (by omega) (by omega) (by have := w1.2.2; omega) w1.ob
    exact ⟨o', b', w, fun K => (e K).trans (p K)⟩
theorem wl17 {R : Type} (c : Int → List Int → List Sd → Bool → List Int → (Bool → List Int → Option R) → Option R) (kf : Nat) (ks : List Sd) (hl : ks.length ≤ 100000)
    (hx : ∀ x ∈ ks, ∀ o b, b.length + (textT x).length ≤ 9000000 → (o = true ∨ b.length ≤ 4000) → WrT R (textT x) o b (c (kd x) (stt x) (kk x) o b)) :
    ∀ (m k i : Nat) (o : Bool) (b : List Int), i + m = ks.length → m < k → b.length + (altX (decide (i = 0)) (ks.drop i)).length ≤ 9000000 → (o = true ∨ b.length ≤ 4000) →
    WrT R (altX (decide (i = 0)) (ks.drop i)) o b fun Ke => yy62_l17 c kf k ks (ks.length : Int) Ke (i : Int) o b
  | m, 0, i, o, b, _, h, _, _ => by omega
  | 0, k + 1, i, o, b, hi, _, _, ho => by
    refine ⟨o, b, by rw [List.drop_eq_nil_of_le (by omega)]; unfold altX; exact Wr.nil o b ho, fun Ke => ?_⟩
    unfold yy62_l17 yy62_l17_b
    rw [decide_eq_false (by omega)]
    rfl
  | m + 1, k + 1, i, o, b, hi, hk, hb, ho => by
    have g0 : decide (0 ≤ (i : Int)) = true := decide_eq_true (by omega)
    have g1 : decide ((i : Int) < (ks.length : Int)) = true := decide_eq_true (by omega)
    have hxx := hx _ (getD_mem ks i (by omega) DD)
    have hd := altX_drop (l := ks) (i := i) (by omega) (decide (i = 0))
    rw [hd] at hb ⊢
    rw [List.length_append, List.length_append] at hb
    have hf1 : decide (i + 1 = 0) = false := decide_eq_false (by omega)
    have tail : ∀ o1 b1, b1.length + (if kd (ks.getD i DD) = 2 then [] else textT (ks.getD i DD)).length + (altX false (ks.drop (i + 1))).length ≤ 9000000 → (o1 = true ∨ b1.length ≤ 4000) → WrT R ((if kd (ks.getD i DD) = 2 then [] else textT (ks.getD i DD)) ++ altX false (ks.drop (i + 1))) o1 b1 fun Ke =>
        bif !(decide (kd (ks.getD i DD) = 2)) then c (kd (ks.getD i DD)) (stt (ks.getD i DD)) (kk (ks.getD i DD)) o1 b1 (fun v28 v29 => yy62_l17 c kf k ks (ks.length : Int) Ke ((i + 1 : Nat) : Int) v28 v29) else yy62_l17 c kf k ks (ks.length : Int) Ke ((i + 1 : Nat) : Int) o1 b1 := by
      intro o1 b1 hb1 ho1
      by_cases h2 : kd (ks.getD i DD) = 2
      · rw [if_pos h2] at hb1 ⊢
        rw [decide_eq_true h2, Bool.not_true, List.nil_append]
        have := wl17 c kf ks hl hx m k (i + 1) o1 b1 (by omega) (by omega) (by rw [hf1]; simp at hb1; omega) ho1
        rw [hf1] at this
        exact this
      · rw [if_neg h2] at hb1 ⊢
        rw [decide_eq_false h2, Bool.not_false]
        obtain ⟨o', b', w, p⟩ := (hxx o1 b1 (by omega) ho1).seq (g := fun v28 v29 Ke => yy62_l17 c kf k ks (ks.length : Int) Ke ((i + 1 : Nat) : Int) v28 v29) (u := altX false (ks.drop (i + 1))) fun o2 b2 w2 => by
          have := wl17 c kf ks hl hx m k (i + 1) o2 b2 (by omega) (by omega) (by rw [hf1]; have := w2.2.2; omega) w2.ob
          rw [hf1] at this
          exact this
        exact ⟨o', b', w, fun K => p K⟩
    have e : ∀ Ke : Bool → List Int → Option R, yy62_l17 c kf (k + 1) ks (ks.length : Int) Ke (i : Int) o b = if i = 0 then (bif !(decide (kd (ks.getD i DD) = 2)) then c (kd (ks.getD i DD)) (stt (ks.getD i DD)) (kk (ks.getD i DD)) o b (fun v28 v29 => yy62_l17 c kf k ks (ks.length : Int) Ke ((i + 1 : Nat) : Int) v28 v29) else yy62_l17 c kf k ks (ks.length : Int) Ke ((i + 1 : Nat) : Int) o b)
        else yy61 [124] o b (fun o1 b1 => bif !(decide (kd (ks.getD i DD) = 2)) then c (kd (ks.getD i DD)) (stt (ks.getD i DD)) (kk (ks.getD i DD)) o1 b1 (fun v28 v29 => yy62_l17 c kf k ks (ks.length : Int) Ke ((i + 1 : Nat) : Int) v28 v29) else yy62_l17 c kf k ks (ks.length : Int) Ke ((i + 1 : Nat) : Int) o1 b1) := by
      intro Ke
      rw [yy62_l17]
      unfold yy62_l17_b
      simp only [g0, g1, gdt, cond_true]
      rw [show Int.toNat (i : Int) = i from rfl, wi1s i (by omega)]
      by_cases h0 : i = 0
      · rw [if_pos h0, decide_eq_false (by omega), cond_false]
      · rw [if_neg h0, decide_eq_true (by omega), cond_true]
    by_cases h0 : i = 0
    · rw [decide_eq_true h0, if_pos rfl] at hb ⊢
      rw [List.nil_append]
      rw [List.length_nil] at hb
      obtain ⟨o', b', w, p⟩ := tail o b (by omega) ho
      exact ⟨o', b', w, fun K => ((e K).trans (if_pos h0)).trans (p K)⟩
    · rw [decide_eq_false h0, if_neg Bool.false_ne_true] at hb ⊢
      rw [List.length_singleton] at hb
      obtain ⟨o', b', w, p⟩ := (put_wt (R := R) [124] o b (by simp; omega)).seq fun o1 b1 w1 => tail o1 b1 (by have := w1.2.2; rw [List.length_singleton] at this; omega) w1.ob
      exact ⟨o', b', w, fun K => ((e K).trans (if_neg h0)).trans (p K)⟩
theorem rx_w {R : Type} : ∀ (n : Nat) (t : Sd) (kf : Nat), Fit n t → plT t = true → 6000 + n ≤ kf → ∀ (o : Bool) (b : List Int), b.length + (textT t).length ≤ 9000000 → (o = true ∨ b.length ≤ 4000) → WrT R (textT t) o b (yy62 kf (kd t) (stt t) (kk t) o b)
  | 0, t, kf, h, _, _, o, b, _, _ => by have := dep_pos t; have := h.1; omega
  | n + 1, t, 0, _, _, h, o, b, _, _ => by omega
  | n + 1, t, kf + 1, hf, hp, hk, o, b, hb, ho => by
    have hkl := kk_len t
    have hn := hf.2.1
    have hkids := fun x hx => hf.kid (x := x) hx
    have hpk := pl_kids hp
    have hx : ∀ x ∈ kk t, ∀ o b, b.length + (textT x).length ≤ 9000000 → (o = true ∨ b.length ≤ 4000) → WrT R (textT x) o b (yy62 kf (kd x) (stt x) (kk x) o b) := fun x hx o b hb ho => rx_w n x kf (hkids x hx) (hpk x hx) (by omega) o b hb ho
    cases o with
    | true =>
      refine ⟨true, b, ⟨rfl, (fun q => by cases q), by omega⟩, fun K => ?_⟩
      unfold yy62 yy62_b; rfl
    | false =>
    have hb4 : b.length ≤ 4000 := by rcases ho with h | h; cases h; exact h
    rw [textT_eq] at hb ⊢
    by_cases h1 : kd t = 1
    · rw [if_pos h1] at hb ⊢
      obtain ⟨o', b', w, p⟩ := put_wt (R := R) [91, 93] false b (by simp; omega)
      exact ⟨o', b', w, fun K => by unfold yy62 yy62_b; rw [decide_eq_true h1, cond_false, cond_true]; exact p K⟩
    rw [if_neg h1] at hb ⊢
    by_cases h2 : kd t = 2
    · rw [if_pos h2] at hb ⊢
      obtain ⟨o', b', w, p⟩ := put_wt (R := R) [40, 41] false b (by simp; omega)
      exact ⟨o', b', w, fun K => by unfold yy62 yy62_b; rw [decide_eq_false h1, decide_eq_true h2, cond_false, cond_false, cond_true]; exact p K⟩
    rw [if_neg h2] at hb ⊢
    by_cases h3 : kd t = 3
    · rw [if_pos h3] at hb ⊢
      obtain ⟨o', b', w, p⟩ := set_w (R := R) kf (by omega) (stt t) (setsOk_iff.1 hf.2.2).1 false b (by omega) ho
      exact ⟨o', b', w, fun K => by unfold yy62 yy62_b; rw [decide_eq_false h1, decide_eq_false h2, decide_eq_true h3, cond_false, cond_false, cond_false, cond_true]; exact p K⟩
    rw [if_neg h3] at hb ⊢
    by_cases h6 : kd t = 6
    · rw [if_pos h6] at hb ⊢
      have hfo := pl_form hp
      rw [h6] at hfo
      obtain ⟨x, hxe⟩ : ∃ x, kk t = [x] := List.length_eq_one_iff.1 (form6.1 hfo).2.1
      have hst : starX (kk t) = (if kd x = 4 ∨ kd x = 5 then [40] ++ (textT x ++ [41]) else textT x) ++ [42] := by rw [hxe]; rfl
      rw [hst] at hb ⊢
      rw [List.length_append, List.length_singleton] at hb
      have e45 : (kd x ∈ ([4, 5] : List Int)) = (kd x = 4 ∨ kd x = 5) := by simp
      have hw := within_w (R := R) (yy62 kf) kf (by omega) x [4, 5] (by simp) (hx x (by rw [hxe]; simp)) false b (by simp only [e45]; omega) ho
      simp only [e45] at hw
      obtain ⟨o', b', w, p⟩ := hw.seq (g := fun o1 b1 K => yy61 [42] o1 b1 K) fun o1 b1 w1 => put_wt [42] o1 b1 (by have := w1.2.2; simp; omega)
      refine ⟨o', b', w, fun K => ?_⟩
      unfold yy62 yy62_b
      rw [decide_eq_false h1, decide_eq_false h2, decide_eq_false h3, decide_eq_false (by omega), decide_eq_false (by omega), decide_eq_true h6]
      simp only [cond_false, cond_true]
      rw [gd_true (decide_eq_true (by rw [hxe]; simp)), hxe]
      exact p K
    rw [if_neg h6] at hb ⊢
    by_cases h4 : kd t = 4
    · rw [if_pos h4] at hb ⊢
      obtain ⟨o', b', w, p⟩ := wl11 (R := R) (yy62 kf) kf (by omega) (kk t) (by omega) hx (kk t).length kf 0 false b (by omega) (by omega) (by rw [List.drop_zero]; omega) ho
      rw [List.drop_zero] at w
      refine ⟨o', b', w, fun K => ?_⟩
      unfold yy62 yy62_b
      rw [decide_eq_false h1, decide_eq_false h2, decide_eq_false h3, decide_eq_true h4]
      exact p K
    rw [if_neg h4] at hb ⊢
    have h5 : kd t = 5 := by
      have hfo := pl_form hp
      unfold formB at hfo
      rw [if_neg (fun q => q.elim h1 h2), if_neg h3, if_neg h4] at hfo
      by_cases h5 : kd t = 5
      · exact h5
      · rw [if_neg h5, if_neg h6] at hfo; cases hfo
    obtain ⟨o', b', w, p⟩ := wl17 (R := R) (yy62 kf) kf (kk t) (by omega) hx (kk t).length kf 0 false b (by omega) (by omega) (by rw [List.drop_zero, show decide ((0 : Nat) = 0) = true from rfl]; omega) ho
    rw [List.drop_zero, show decide ((0 : Nat) = 0) = true from rfl] at w
    refine ⟨o', b', w, fun K => ?_⟩
    unfold yy62 yy62_b
    rw [decide_eq_false h1, decide_eq_false h2, decide_eq_false h3, decide_eq_false h4, decide_eq_true h5]
    exact p K
noncomputable def showT (t : Sd) : List Int := if plT t = true ∧ (textT t).length ≤ 4000 then textT t else []
theorem show_ok {R : Type} (n : Nat) (t : Sd) (kf : Nat) (hf : Fit n t) (hk : 6000 + n ≤ kf) (K : List Int → Option R) : yy59 kf (kd t) (stt t) (kk t) K = K (showT t) := by
  unfold yy59 yy59_b showT
  rw [rxplain_ok n t kf hf hk]
  cases hp : plT t with
  | false => rw [if_neg (fun q => by cases q.1)]; rfl
  | true =>
    rw [Bool.not_true, cond_false]
    have hl := text_len _ t (Nat.le_refl _)
    have hn := hf.2.1
    obtain ⟨o', b', w, p⟩ := rx_w (R := R) n t kf hf hp hk false [] (by simp; omega) (Or.inr (by simp))
    rw [p]
    obtain ⟨w1, w2, _⟩ := w
    by_cases h : (textT t).length ≤ 4000
    · have : o' = false := by rw [w1, Bool.false_or]; exact decide_eq_false (by simp; omega)
      subst this
      rw [cond_false, if_pos ⟨rfl, h⟩, w2 rfl, List.nil_append]
    · have : o' = true := by rw [w1, Bool.false_or]; exact decide_eq_true (by simp; omega)
      subst this
      rw [cond_true, if_neg (fun q => h q.2)]
theorem nodes_l3 {R : Type} (c : Int → List Int → List Sd → (Int → Option R) → Option R) (kf : Nat) (ks : List Sd) (B : Nat) (hB : nodL ks ≤ B) (hB2 : B ≤ 4000000000000000)
    (hc : ∀ x ∈ ks, ∀ K : Int → Option R, c (kd x) (stt x) (kk x) K = K (nod x : Int)) (Ke : Int → Option R) : ∀ (m k i v : Nat), i + m = ks.length → m < k → v + nodL (ks.drop i) ≤ B + 1 →
    yy31_l3 c kf k ks Ke (v : Int) (i : Int) = Ke ((v + nodL (ks.drop i) : Nat) : Int)
  | m, 0, i, v, _, h, _ => by omega
  | 0, k + 1, i, v, hi, _, _ => by
    unfold yy31_l3 yy31_l3_b
    rw [decide_eq_false (by omega), cond_false, List.drop_eq_nil_of_le (by omega)]; rfl
  | m + 1, k + 1, i, v, hi, hk, hv => by
    have hkl := nodL_len ks
    have g0 : decide (0 ≤ (i : Int)) = true := decide_eq_true (by omega)
    have g1 : decide ((i : Int) < (ks.length : Int)) = true := decide_eq_true (by omega)
    unfold yy31_l3 yy31_l3_b
    rw [getD_drop ks i (by omega) DD] at hv ⊢
    rw [show nodL (ks.getD i DD :: ks.drop (i + 1)) = nod (ks.getD i DD) + nodL (ks.drop (i + 1)) from rfl] at hv ⊢
    simp only [g0, g1, gdt, cond_true]
    rw [show Int.toNat (i : Int) = i from rfl]
    refine (hc _ (getD_mem ks i (by omega) DD) _).trans ?_
    rw [show IntKind.i64.wrap ((v : Int) + (nod (ks.getD i DD) : Int)) = ((v + nod (ks.getD i DD) : Nat) : Int) by rw [IntKind.wrap_i64]; omega, wi1s i (by omega)]
    rw [nodes_l3 c kf ks B hB hB2 hc Ke m k (i + 1) _ (by omega) (by omega) (by omega), Nat.add_assoc]
end Go.Ab.T

/- Shown: the law ShowAll. -/
namespace Go.Ab.T
open Go Go.Ab
set_option linter.unusedVariables false
set_option linter.unusedSimpArgs false
set_option maxRecDepth 20000
theorem dep_nod : ∀ (n : Nat) (t : Sd), nod t ≤ n → dep t ≤ nod t
  | 0, t, h => by have := nod_pos t; omega
  | n + 1, t, h => by
    rw [dep_eq, nod_eq]
    have key : ∀ l : List Sd, (∀ x ∈ l, dep x ≤ nod x) → depL l ≤ nodL l := by
      intro l
      induction l with
      | nil => intro _; exact Nat.le_refl _
      | cons x r ih =>
        intro hx
        have h1 := hx x (by simp)
        have h2 := ih fun y hy => hx y (by simp [hy])
        rw [show depL (x :: r) = max (dep x) (depL r) from rfl, show nodL (x :: r) = nod x + nodL r from rfl]
        omega
    have := key (kk t) fun x hx => dep_nod n x (by have := nod_kid hx; omega)
    omega
theorem nodes_ok {R : Type} (B : Nat) (hB : B ≤ 4000000000000000) : ∀ (n : Nat) (t : Sd) (kf : Nat), dep t ≤ n → n + B < kf → nod t ≤ B → ∀ K : Int → Option R, yy31 kf (kd t) (stt t) (kk t) K = K (nod t : Int)
  | 0, t, kf, h, _, _, K => by have := dep_pos t; omega
  | n + 1, t, 0, _, h, _, K => by omega
  | n + 1, t, kf + 1, hd, hk, hn, K => by
    have hkl := kk_len t
    have hne := nod_eq t
    unfold yy31 yy31_b
    refine (nodes_l3 (yy31 kf) kf (kk t) B (by omega) hB (fun x hx K => nodes_ok B hB n x kf (by have := dep_kid hx; omega) (by omega) (by have := nod_kid hx; omega) K) _ (kk t).length kf 0 1 (by omega) (by omega) (by rw [List.drop_zero]; omega)).trans ?_
    rw [List.drop_zero, hne, Nat.add_comm]
theorem depth_l3 {R : Type} (c : Int → List Int → List Sd → (Int → Option R) → Option R) (kf : Nat) (ks : List Sd) (hl : ks.length ≤ 4000000000000000)
    (hc : ∀ x ∈ ks, ∀ K : Int → Option R, c (kd x) (stt x) (kk x) K = K (dep x : Int)) (Ke : Int → Option R) : ∀ (m k i v : Nat), i + m = ks.length → m < k →
    yy27_l3 c kf k ks Ke (v : Int) (i : Int) = Ke ((max v (depL (ks.drop i)) : Nat) : Int)
  | m, 0, i, v, _, h => by omega
  | 0, k + 1, i, v, hi, _ => by
    unfold yy27_l3 yy27_l3_b
    rw [decide_eq_false (by omega), cond_false, List.drop_eq_nil_of_le (by omega), show depL [] = 0 from rfl, Nat.max_zero]
  | m + 1, k + 1, i, v, hi, hk => by
    have g0 : decide (0 ≤ (i : Int)) = true := decide_eq_true (by omega)
    have g1 : decide ((i : Int) < (ks.length : Int)) = true := decide_eq_true (by omega)
    unfold yy27_l3 yy27_l3_b
    rw [getD_drop ks i (by omega) DD]
    rw [show depL (ks.getD i DD :: ks.drop (i + 1)) = max (dep (ks.getD i DD)) (depL (ks.drop (i + 1))) from rfl]
    simp only [g0, g1, gdt, cond_true]
    rw [show Int.toNat (i : Int) = i from rfl]
    refine (hc _ (getD_mem ks i (by omega) DD) _).trans ?_
    rw [show mx (v : Int) (dep (ks.getD i DD) : Int) = ((max v (dep (ks.getD i DD)) : Nat) : Int) by unfold mx; split <;> omega, wi1s i (by omega)]
    rw [depth_l3 c kf ks hl hc Ke m k (i + 1) _ (by omega) (by omega), Nat.max_assoc]
theorem depth_ok {R : Type} (B : Nat) (hB : B ≤ 3000000000000000) : ∀ (n : Nat) (t : Sd) (kf : Nat), dep t ≤ n → n + B < kf → nod t ≤ B → ∀ K : Int → Option R, yy27 kf (kd t) (stt t) (kk t) K = K (dep t : Int)
  | 0, t, kf, h, _, _, K => by have := dep_pos t; omega
  | n + 1, t, 0, _, h, _, K => by omega
  | n + 1, t, kf + 1, hd, hk, hn, K => by
    have hkl := kk_len t
    have hde := dep_eq t
    have hdn := dep_nod _ t (Nat.le_refl _)
    unfold yy27 yy27_b
    refine (depth_l3 (yy27 kf) kf (kk t) (by omega) (fun x hx K => depth_ok B hB n x kf (by have := dep_kid hx; omega) (by omega) (by have := nod_kid hx; omega) K) _ (kk t).length kf 0 0 (by omega) (by omega)).trans ?_
    rw [List.drop_zero, Nat.zero_max, wi1s _ (by omega), hde]
end Go.Ab.T

/- Shown: how long texts are, by runs. -/
namespace Go.Ab.T
open Go Go.Ab
set_option linter.unusedVariables false
set_option linter.unusedSimpArgs false
set_option maxRecDepth 20000
def rs (s : List Int) (b : Nat) : Bool := mem s b && (decide (b = 0) || !mem s (b - 1))
def runsN (s : List Int) : Nat := (List.range 256).countP (rs s)
theorem runs_uni (s t : List Int) : runsN (uniS s t) ≤ runsN s + runsN t := by
  unfold runsN
  have hm : ∀ b, b < 256 → mem (uniS s t) b = (mem s b || mem t b) := fun b hb => by unfold uniS; rw [mem_setOf _ b hb]
  have key : ∀ l : List Nat, (∀ b ∈ l, b < 256) → l.countP (rs (uniS s t)) ≤ l.countP (rs s) + l.countP (rs t) := by
    intro l
    induction l with
    | nil => intro _; simp
    | cons b r ih =>
      intro hb
      have ih := ih fun c hc => hb c (by simp [hc])
      have hb0 := hb b (by simp)
      rw [List.countP_cons, List.countP_cons, List.countP_cons]
      have : (if rs (uniS s t) b = true then 1 else 0) ≤ (if rs s b = true then 1 else 0) + (if rs t b = true then 1 else 0) := by
        unfold rs
        rw [hm b hb0, hm (b - 1) (by omega)]
        cases mem s b <;> cases mem t b <;> cases mem s (b - 1) <;> cases mem t (b - 1) <;> cases decide (b = 0) <;> simp
      omega
  exact key _ fun b hb => List.mem_range.1 hb
theorem countP_few {p : Nat → Bool} (L : List Nat) (h : ∀ b, b < 256 → p b = true → b ∈ L) : (List.range 256).countP p ≤ L.length := by
  rw [List.countP_eq_length_filter]
  have : ∀ (l ys : List Nat), l.Nodup → (∀ x ∈ l, x ∈ ys) → l.length ≤ ys.length := by
    intro l
    induction l with
    | nil => intro ys _ _; simp
    | cons a r ih =>
      intro ys hn hs
      obtain ⟨hn1, hn2⟩ := List.nodup_cons.1 hn
      have ha := hs a (by simp)
      have := ih (ys.erase a) hn2 fun x hx => (List.mem_erase_of_ne (fun h => hn1 (by rw [← h]; exact hx))).2 (hs x (by simp [hx]))
      rw [List.length_erase_of_mem ha] at this
      have := List.length_pos_of_mem ha
      simp only [List.length_cons]; omega
  refine this _ L (List.Nodup.sublist List.filter_sublist List.nodup_range) fun x hx => ?_
  obtain ⟨h1, h2⟩ := List.mem_filter.1 hx
  exact h x (List.mem_range.1 h1) h2
theorem runs_range (f t : Nat) : runsN (setOf fun b => decide (f ≤ b ∧ b ≤ t)) ≤ 1 := by
  refine countP_few [f] fun b hb h => ?_
  unfold rs at h
  rw [mem_setOf _ b hb, mem_setOf _ (b - 1) (by omega)] at h
  simp only [Bool.and_eq_true, Bool.or_eq_true, decide_eq_true_eq, Bool.not_eq_true', decide_eq_false_iff_not] at h
  simp; omega
theorem runs_of (l : List Int) (hl : ∀ x ∈ l, 0 ≤ x) : runsN (setOf fun b => decide ((b : Int) ∈ l)) ≤ l.length := by
  have h := countP_few (p := rs (setOf fun b => decide ((b : Int) ∈ l))) (l.map Int.toNat) fun b hb h => by
    unfold rs at h
    rw [mem_setOf _ b hb] at h
    simp only [Bool.and_eq_true, decide_eq_true_eq] at h
    exact List.mem_map.2 ⟨(b : Int), h.1, rfl⟩
  rwa [List.length_map] at h
theorem runs_not (c : Int) : runsN (setOf fun b => !decide ((b : Int) ∈ [c])) ≤ 2 := by
  refine countP_few [0, c.toNat + 1] fun b hb h => ?_
  unfold rs at h
  rw [mem_setOf _ b hb, mem_setOf _ (b - 1) (by omega)] at h
  simp only [List.mem_singleton, Bool.and_eq_true, Bool.or_eq_true, decide_eq_true_eq, Bool.not_eq_true', decide_eq_false_iff_not, Bool.not_not] at h
  simp; omega
def stL (l : List Int) (i : Nat) : Bool := decide (i = 0) || !decide (l.getD i 0 = IntKind.u8.wrap (l.getD (i - 1) 0 + 1))
theorem endR_next (l : List Int) : ∀ (m i : Nat), l.length ≤ i + m → i < l.length → endR l m i + 1 < l.length → stL l (endR l m i + 1) = true
  | 0, i, h, hi, _ => by omega
  | m + 1, i, h, hi, h2 => by
    unfold endR at h2 ⊢
    split at h2
    · rename_i hc
      rw [if_pos hc]
      exact endR_next l m (i + 1) (by omega) hc.1 h2
    · rename_i hc
      rw [if_neg hc]
      unfold stL
      rw [decide_eq_false (by omega), Bool.false_or, Nat.add_sub_cancel]
      have : ¬ l.getD (i + 1) 0 = IntKind.u8.wrap (l.getD i 0 + 1) := fun q => hc ⟨h2, q⟩
      rw [decide_eq_false this]; rfl
theorem count_range' (p : Nat → Bool) (i m : Nat) (h : p i = true) : (List.range' i (m + 1)).countP p = 1 + (List.range' (i + 1) m).countP p := by
  rw [List.range'_succ, List.countP_cons, if_pos h]; omega
theorem count_skip (p : Nat → Bool) (i k n : Nat) (h : k ≤ n) : (List.range' (i + k) (n - k)).countP p ≤ (List.range' i n).countP p := by
  have : List.range' i n = List.range' i k ++ List.range' (i + k) (n - k) := by
    have := List.range'_append_1 (s := i) (m := k) (n := n - k)
    rw [this]; congr 1; omega
  rw [this, List.countP_append]; omega
theorem runsT_runs (l : List Int) : ∀ (m i : Nat), (i < l.length → stL l i = true) → (runsT l m i).length ≤ 9 * (List.range' i (l.length - i)).countP (stL l)
  | 0, i, _ => by simp [runsT]
  | m + 1, i, hs => by
    unfold runsT
    by_cases hi : i < l.length
    rotate_left
    · rw [if_neg hi]; simp
    rw [if_pos hi, List.length_append]
    obtain ⟨e1, e2⟩ := endR_ge l l.length i
    have e2 := e2 hi
    have hp := pieceT_len l i (endR l l.length i)
    have hn := endR_next l l.length i (by omega) hi
    generalize endR l l.length i = k at *
    have ih := runsT_runs l m (k + 1) hn
    have h1 : (List.range' i (l.length - i)).countP (stL l) = 1 + (List.range' (i + 1) (l.length - i - 1)).countP (stL l) := by
      have := count_range' (stL l) i (l.length - i - 1) (hs hi)
      rwa [show l.length - i - 1 + 1 = l.length - i by omega] at this
    have h2 := count_skip (stL l) (i + 1) (k - i) (l.length - i - 1) (by omega)
    rw [show i + 1 + (k - i) = k + 1 by omega, show l.length - i - 1 - (k - i) = l.length - (k + 1) by omega] at h2
    omega
theorem stL_rs (p : Nat → Bool) (i : Nat) (hi : i < (listOf p).length) (h : stL (listOf p) i = true) : (p ((listOf p).getD i 0).toNat && (decide (((listOf p).getD i 0).toNat = 0) || !p (((listOf p).getD i 0).toNat - 1))) = true := by
  have hpw : ((List.range 256).filter p).Pairwise (· < ·) := List.Pairwise.filter _ List.pairwise_lt_range
  unfold listOf at hi h ⊢
  generalize hL : (List.range 256).filter p = L at *
  have hmem : ∀ x, x ∈ L ↔ x < 256 ∧ p x = true := fun x => by rw [← hL, List.mem_filter, List.mem_range]
  rw [List.length_map] at hi
  have hg : ∀ j, j < L.length → (L.map fun b : Nat => (b : Int)).getD j 0 = ((L.getD j 0 : Nat) : Int) := fun j hj => by
    rw [List.getD_eq_getElem?_getD, List.getElem?_map, List.getElem?_eq_getElem hj, List.getD_eq_getElem?_getD, List.getElem?_eq_getElem hj]; rfl
  rw [hg i hi, Int.toNat_natCast]
  have hx := (hmem _).1 (getD_mem L i hi 0)
  rw [hx.2, Bool.true_and]
  by_cases h0 : L.getD i 0 = 0
  · rw [decide_eq_true h0, Bool.true_or]
  rw [decide_eq_false h0, Bool.false_or]
  cases hq : p (L.getD i 0 - 1) with
  | false => rfl
  | true =>
    exfalso
    have hm := (hmem (L.getD i 0 - 1)).2 ⟨by omega, hq⟩
    obtain ⟨j, hj, hje⟩ := List.getElem_of_mem hm
    have hgi : L.getD i 0 = L[i] := by rw [List.getD_eq_getElem?_getD, List.getElem?_eq_getElem hi]; rfl
    have hpos := List.pairwise_iff_getElem.1 hpw
    have hji : j < i := by
      rcases Nat.lt_trichotomy j i with q | q | q
      · exact q
      · subst q; omega
      · have := hpos i j hi hj q; omega
    have hj1 : j = i - 1 := by
      rcases Nat.lt_trichotomy j (i - 1) with q | q | q
      · have a1 := hpos j (i - 1) hj (by omega) q
        have a2 := hpos (i - 1) i (by omega) hi (by omega)
        omega
      · exact q
      · omega
    subst hj1
    unfold stL at h
    rw [decide_eq_false (by omega : ¬ i = 0), Bool.false_or, hg i hi, hg (i - 1) (by omega)] at h
    have hgj : L.getD (i - 1) 0 = L[i - 1] := by rw [List.getD_eq_getElem?_getD, List.getElem?_eq_getElem hj]; rfl
    have : ((L.getD i 0 : Nat) : Int) = IntKind.u8.wrap (((L.getD (i - 1) 0 : Nat) : Int) + 1) := by
      rw [IntKind.wrap_u8, hgj, hje]; omega
    rw [decide_eq_true this] at h
    cases h
theorem starts_le (s : List Int) : (List.range' 0 (listOf (mem s)).length).countP (stL (listOf (mem s))) ≤ runsN s := by
  have h1 : (List.range' 0 (listOf (mem s)).length).countP (stL (listOf (mem s))) ≤ (List.range' 0 (listOf (mem s)).length).countP fun i => rs s ((listOf (mem s)).getD i 0).toNat :=
    List.countP_mono_left fun i hi h => by
      have hi' := List.mem_range'_1.1 hi
      exact stL_rs (mem s) i (by omega) h
  have h2 : ∀ (l : List Int) (q : Int → Bool), (List.range' 0 l.length).countP (fun i => q (l.getD i 0)) = l.countP q := by
    intro l q
    have : ∀ (a : List Int) (b : List Int), l = a ++ b → (List.range' a.length b.length).countP (fun i => q (l.getD i 0)) = b.countP q := by
      intro a b
      induction b generalizing a with
      | nil => intro _; rfl
      | cons x r ih =>
        intro he
        rw [List.length_cons, List.range'_succ, List.countP_cons, List.countP_cons]
        have hx : l.getD a.length 0 = x := by rw [he, List.getD_eq_getElem?_getD, List.getElem?_append_right (Nat.le_refl _), Nat.sub_self]; rfl
        rw [hx]
        have := ih (a ++ [x]) (by rw [he]; simp)
        rw [List.length_append, List.length_singleton] at this
        rw [this]
    exact this [] l rfl
  refine Nat.le_trans h1 ?_
  rw [h2 (listOf (mem s)) fun v => rs s v.toNat]
  unfold listOf runsN
  rw [List.countP_map, List.countP_filter]
  exact List.countP_mono_left fun b hb h => by
    simp only [Function.comp, Int.toNat_natCast, Bool.and_eq_true] at h
    exact h.1
theorem setT_runs (s : List Int) (hz : s ≠ ZS) (hs : isSet s) : 1 ≤ runsN s ∧ (setT s).length ≤ 2 + 9 * runsN s := by
  have hst := starts_le s
  have hr := runsT_runs (listOf (mem s)) (listOf (mem s)).length 0 fun _ => rfl
  rw [Nat.sub_zero] at hr
  have hpos : 1 ≤ (List.range' 0 (listOf (mem s)).length).countP (stL (listOf (mem s))) := by
    by_cases h0 : (listOf (mem s)).length = 0
    · exfalso
      apply hz
      rw [← setOf_mem hs, show ZS = setOf fun _ => false from zero_setOf]
      refine setOf_congr fun b hb => ?_
      cases hm : mem s b with
      | false => rfl
      | true =>
        have := (mem_listOf (mem s) b).2 ⟨hb, hm⟩
        rw [List.length_eq_zero_iff.1 h0] at this
        cases this
    · obtain ⟨n, hn⟩ : ∃ n, (listOf (mem s)).length = n + 1 := ⟨(listOf (mem s)).length - 1, by omega⟩
      rw [hn, count_range' _ _ _ (show stL (listOf (mem s)) 0 = true from rfl)]; omega
  refine ⟨by omega, ?_⟩
  unfold setT
  split
  · simp; omega
  split
  · have := signT_len ((listOf (mem s)).getD 0 0); omega
  · simp only [List.length_cons, List.length_append, List.length_nil]; omega
end Go.Ab.T

/- Shown: what the constructors make of plain trees is plain; weights. -/
namespace Go.Ab.T
open Go Go.Ab
set_option linter.unusedVariables false
set_option linter.unusedSimpArgs false
set_option maxRecDepth 20000
mutual
noncomputable def wtT : Sd → Nat
  | .node l ks => if l.1 = 3 then 2 + 9 * runsN l.2.1 else 2 + wtL ks
noncomputable def wtL : List Sd → Nat
  | [] => 0
  | x :: r => (wtT x + 2) + wtL r
end
theorem wtT_eq (t : Sd) : wtT t = if kd t = 3 then 2 + 9 * runsN (stt t) else 2 + wtL (kk t) := by obtain ⟨l, ks⟩ := t; rfl
theorem wtL_cons (x : Sd) (r : List Sd) : wtL (x :: r) = (wtT x + 2) + wtL r := rfl
theorem wtL_append : ∀ a b : List Sd, wtL (a ++ b) = wtL a + wtL b
  | [], b => by simp [wtL]
  | x :: a, b => by rw [List.cons_append, wtL_cons, wtL_cons, wtL_append a b]; omega
theorem wtL_filter (p : Sd → Bool) : ∀ l : List Sd, wtL (l.filter p) ≤ wtL l
  | [] => Nat.le_refl _
  | x :: l => by
    have := wtL_filter p l
    rw [List.filter_cons]
    split
    · rw [wtL_cons, wtL_cons]; omega
    · rw [wtL_cons]; omega
theorem text_wt : ∀ (n : Nat) (t : Sd), dep t ≤ n → plT t = true → setsOk t → (textT t).length ≤ wtT t
  | 0, t, h, _, _ => by have := dep_pos t; omega
  | n + 1, t, h, hp, hs => by
    have hs' := setsOk_iff.1 hs
    have kids : ∀ x ∈ kk t, (textT x).length ≤ wtT x := fun x hx => text_wt n x (by have := dep_kid hx; omega) (pl_kids hp x hx) (hs'.2 x hx)
    have hcat : ∀ l : List Sd, (∀ x ∈ l, (textT x).length ≤ wtT x) → (catX l).length ≤ wtL l ∧ ∀ f, (altX f l).length ≤ wtL l := by
      intro l
      induction l with
      | nil => intro _; exact ⟨by simp [catX], fun f => by simp [altX]⟩
      | cons x r ih =>
        intro hx
        obtain ⟨i1, i2⟩ := ih fun y hy => hx y (by simp [hy])
        have h1 := hx x (by simp)
        rw [wtL_cons]
        refine ⟨?_, fun f => ?_⟩
        · unfold catX
          rw [List.length_append]
          split
          · simp only [List.length_append, List.length_singleton]; omega
          · omega
        · have i2 := i2 false
          unfold altX
          rw [List.length_append, List.length_append]
          split <;> split <;> simp only [List.length_nil, List.length_singleton] <;> omega
    have hfo := pl_form hp
    rw [textT_eq, wtT_eq]
    by_cases h1 : kd t = 1
    · rw [if_pos h1, if_neg (by omega)]; simp
    rw [if_neg h1]
    by_cases h2 : kd t = 2
    · rw [if_pos h2, if_neg (by omega)]; simp
    rw [if_neg h2]
    by_cases h3 : kd t = 3
    · rw [if_pos h3, if_pos h3]
      rw [h3] at hfo
      exact (setT_runs (stt t) (form3.1 hfo).1 hs'.1).2
    rw [if_neg h3, if_neg h3]
    by_cases h6 : kd t = 6
    · rw [if_pos h6]
      rw [h6] at hfo
      obtain ⟨x, hxe⟩ : ∃ x, kk t = [x] := List.length_eq_one_iff.1 (form6.1 hfo).2.1
      have hx := kids x (by rw [hxe]; simp)
      rw [hxe, wtL_cons]
      unfold starX
      rw [List.length_append]
      split
      · simp only [List.length_append, List.length_singleton]; omega
      · simp only [List.length_singleton]; omega
    rw [if_neg h6]
    split
    · have := (hcat (kk t) kids).1; omega
    · have := (hcat (kk t) kids).2 true; omega
theorem pl_none : plT noneT = true := by rw [plT_eq]; show (formB 1 ZS [] && plL []) = true; rw [form1.2 ⟨rfl, rfl⟩]; rfl
theorem pl_empty : plT emptyT = true := by rw [plT_eq]; show (formB 2 ZS [] && plL []) = true; rw [form2.2 ⟨rfl, rfl⟩]; rfl
theorem pl_set {s : List Int} (h : s ≠ ZS) : plT (Rose.node (3, s, ()) []) = true := by rw [plT_eq]; show (formB 3 s [] && plL []) = true; rw [form3.2 ⟨h, rfl⟩]; rfl
theorem sok_none : setsOk noneT := ⟨ZS_set, trivial⟩
theorem sok_empty : setsOk emptyT := ⟨ZS_set, trivial⟩
structure Gd (n w : Nat) (t : Sd) : Prop where
  pl : plT t = true
  sk : setsOk t
  nd : nod t ≤ n
  wt : wtT t ≤ w
theorem Gd.fit {n w : Nat} {t : Sd} (h : Gd n w t) (hn : n ≤ 2000) : Fit n t := ⟨by have := dep_nod _ t (Nat.le_refl _); have := h.nd; omega, by have := h.nd; omega, h.sk⟩
theorem Gd.none (n w : Nat) (hn : 1 ≤ n) (hw : 2 ≤ w) : Gd n w noneT := ⟨pl_none, sok_none, hn, hw⟩
theorem Gd.empty (n w : Nat) (hn : 1 ≤ n) (hw : 2 ≤ w) : Gd n w emptyT := ⟨pl_empty, sok_empty, hn, hw⟩
theorem flat_wt {c : Int} (hc : c ≠ 3) : ∀ l : List Sd, wtL (flatT c l) ≤ wtL l
  | [] => Nat.le_refl _
  | x :: l => by
    have := flat_wt hc l
    rw [flatT_cons, wtL_append, wtL_cons]
    split
    · rename_i h
      rw [wtT_eq, if_neg (by omega)]; omega
    · rw [wtL_cons]; simp only [wtL]; omega
theorem nodL_filter (p : Sd → Bool) : ∀ l : List Sd, nodL (l.filter p) ≤ nodL l
  | [] => Nat.le_refl _
  | x :: l => by
    have := nodL_filter p l
    rw [List.filter_cons, show nodL (x :: l) = nod x + nodL l from rfl]
    split
    · rw [show nodL (x :: l.filter p) = nod x + nodL (l.filter p) from rfl]; omega
    · omega
theorem oneOf_bd {k : Int} (hk : k ≠ 3) {a : Sd} (ha1 : nod a = 1) (ha2 : wtT a = 2) (l : List Sd) : nod (oneOf k a l) ≤ 1 + nodL l ∧ wtT (oneOf k a l) ≤ 2 + wtL l := by
  match l with
  | [] => exact ⟨by show nod a ≤ _; omega, by show wtT a ≤ _; omega⟩
  | [x] => exact ⟨by show nod x ≤ 1 + (nod x + 0); omega, by show wtT x ≤ 2 + ((wtT x + 2) + 0); omega⟩
  | x :: y :: r =>
    refine ⟨?_, ?_⟩
    · show nodL (x :: y :: r) + 1 ≤ 1 + nodL (x :: y :: r); omega
    · rw [wtT_eq]
      show (if k = 3 then _ else 2 + wtL (x :: y :: r)) ≤ 2 + wtL (x :: y :: r)
      rw [if_neg hk]; exact Nat.le_refl _
theorem cat_good {l : List Sd} (h : ∀ x ∈ l, plT x = true ∧ setsOk x) : Gd (1 + nodL l) (2 + wtL l) (catT l) := by
  have hf1 := flatT_nod 4 l
  have hf2 := flat_wt (c := 4) (by decide) l
  have hpl := flat_pl (c := 4) (l := l) fun x hx => (h x hx).1
  have hsk : ∀ x ∈ flatT 4 l, setsOk x := fun x hx => by
    rcases flat_mem hx with ⟨q, _⟩ | ⟨y, hy, hk, hxy⟩
    · exact (h x q).2
    · exact (setsOk_iff.1 (h y hy).2).2 x hxy
  have h4 := flat4_kd (l := l) fun x hx => (h x hx).1
  unfold catT
  by_cases hn : (flatT 4 l).any (fun x => decide (kd x = 1)) = true
  · rw [if_pos hn]; exact Gd.none _ _ (by omega) (by omega)
  rw [if_neg hn]
  have hk1 : ∀ x ∈ flatT 4 l, kd x ≠ 1 := fun x hx q => hn (List.any_eq_true.2 ⟨x, hx, decide_eq_true q⟩)
  have hb := oneOf_bd (k := 4) (by decide) (a := emptyT) rfl rfl ((flatT 4 l).filter fun x => !decide (kd x = 2))
  have n1 := nodL_filter (fun x => !decide (kd x = 2)) (flatT 4 l)
  have n2 := wtL_filter (fun x => !decide (kd x = 2)) (flatT 4 l)
  have hm : ∀ x ∈ (flatT 4 l).filter (fun x => !decide (kd x = 2)), plT x = true ∧ setsOk x ∧ kd x ≠ 4 ∧ kd x ≠ 1 ∧ kd x ≠ 2 := fun x hx => by
    obtain ⟨a, b⟩ := List.mem_filter.1 hx
    exact ⟨hpl x a, hsk x a, h4 x a, hk1 x a, by simpa using b⟩
  generalize (flatT 4 l).filter (fun x => !decide (kd x = 2)) = o at *
  refine ⟨?_, ?_, by omega, by omega⟩
  · match o, hm with
    | [], _ => exact pl_empty
    | [x], hm => exact (hm x (by simp)).1
    | x :: y :: r, hm =>
      show plT (Rose.node (4, ZS, ()) (x :: y :: r)) = true
      rw [plT_eq, Bool.and_eq_true]
      refine ⟨form4.2 ⟨rfl, (by show 1 < r.length + 1 + 1; omega), badL_iff.2 fun z hz => ?_⟩, plL_iff.2 fun z hz => (hm z hz).1⟩
      have := (hm z hz).2.2
      simp; omega
  · match o, hm with
    | [], _ => exact sok_empty
    | [x], hm => exact (hm x (by simp)).2.1
    | x :: y :: r, hm => exact setsOk_iff.2 ⟨ZS_set, fun z hz => (hm z hz).2.1⟩
theorem insT_nod (l : List Sd) (r : Sd) : nodL (insT l r) ≤ nodL l + nod r ∧ wtL (insT l r) ≤ wtL l + (wtT r + 2) := by
  induction l with
  | nil => exact ⟨by show nod r + 0 ≤ 0 + nod r; omega, by show (wtT r + 2) + 0 ≤ 0 + (wtT r + 2); omega⟩
  | cons x l ih =>
    unfold insT
    split
    · rw [show nodL (x :: insT l r) = nod x + nodL (insT l r) from rfl, show nodL (x :: l) = nod x + nodL l from rfl, wtL_cons, wtL_cons]; omega
    · split
      · omega
      · rw [show nodL (r :: x :: l) = nod r + nodL (x :: l) from rfl, wtL_cons]; omega
theorem altR_bd : ∀ (l out : List Sd) (s : List Int), (∀ x ∈ l, plT x = true ∧ setsOk x) → isSet s →
    (∀ x ∈ (altR l out s).1, x ∈ out ∨ x ∈ l) ∧ nodL (altR l out s).1 + (if (altR l out s).2 = ZS then 0 else 1) ≤ nodL out + nodL l + (if s = ZS then 0 else 1) ∧
    wtL (altR l out s).1 + 9 * runsN (altR l out s).2 + (if (altR l out s).2 = ZS then 0 else 4) ≤ wtL out + wtL l + 9 * runsN s + (if s = ZS then 0 else 4)
  | [], out, s, _, _ => ⟨fun x hx => Or.inl hx, Nat.le_refl (nodL out + if s = ZS then 0 else 1), Nat.le_refl (wtL out + 9 * runsN s + if s = ZS then 0 else 4)⟩
  | x :: r, out, s, h, hs => by
    have hr := fun y hy => h y (List.mem_cons_of_mem x hy)
    rw [show nodL (x :: r) = nod x + nodL r from rfl, wtL_cons]
    unfold altR
    by_cases h1 : kd x = 1
    · rw [if_pos h1]
      obtain ⟨a, b, c⟩ := altR_bd r out s hr hs
      exact ⟨fun y hy => (a y hy).imp id fun q => List.mem_cons_of_mem _ q, by omega, by omega⟩
    rw [if_neg h1]
    by_cases h3 : kd x = 3
    · rw [if_pos h3]
      obtain ⟨a, b, c⟩ := altR_bd r out (uniS s (stt x)) hr (uniS_set _ _)
      have hu := runs_uni s (stt x)
      have hnp := nod_pos x
      rw [wtT_eq x, if_pos h3]
      refine ⟨fun y hy => (a y hy).imp id fun q => List.mem_cons_of_mem _ q, ?_, ?_⟩
      · have : (if uniS s (stt x) = ZS then 0 else 1) ≤ (if s = ZS then 0 else 1) + 1 := by split <;> split <;> omega
        omega
      · have : (if uniS s (stt x) = ZS then 0 else 4) ≤ (if s = ZS then 0 else 4) + 4 := by split <;> split <;> omega
        omega
    · rw [if_neg h3]
      obtain ⟨a, b, c⟩ := altR_bd r (insT out x) s hr hs
      obtain ⟨i1, i2⟩ := insT_nod out x
      refine ⟨fun y hy => ?_, by omega, by omega⟩
      rcases a y hy with q | q
      · rcases insT_mem q with rfl | q
        · exact Or.inr (by simp)
        · exact Or.inl q
      · exact Or.inr (List.mem_cons_of_mem _ q)
theorem runs_zero : runsN ZS = 0 := by
  unfold runsN
  rw [List.countP_eq_zero]
  intro b hb
  unfold rs
  rw [show mem ZS b = false from mem_zero b]; simp
theorem alt_good {n : Nat} {l : List Sd} (h : ∀ x ∈ l, plT x = true ∧ setsOk x) (hf : ∀ x ∈ l, Fit n x) : Gd (1 + nodL l) (2 + wtL l) (altT l) ∧ ((kd (altT l) = 5 → ∀ x ∈ kk (altT l), (x ∈ flatT 5 l ∨ kd x = 3))) := by
  have hf1 := flatT_nod 5 l
  have hf2 := flat_wt (c := 5) (by decide) l
  have hpl := flat_pl (c := 5) (l := l) fun x hx => (h x hx).1
  have hsk : ∀ x ∈ flatT 5 l, setsOk x := fun x hx => by
    rcases flat_mem hx with ⟨q, _⟩ | ⟨y, hy, hk, hxy⟩
    · exact (h x q).2
    · exact (setsOk_iff.1 (h y hy).2).2 x hxy
  have h5 := flat5_kd (l := l) fun x hx => (h x hx).1
  obtain ⟨a1, a2⟩ := altR_out (n := n) (flatT 5 l) [] ZS (fun x hx => ⟨flat_fit hf x hx, h5 x hx⟩) (fun x hx => by cases hx) rfl
  obtain ⟨b1, b2, b3⟩ := altR_bd (flatT 5 l) [] ZS (fun x hx => ⟨hpl x hx, hsk x hx⟩) ZS_set
  obtain ⟨c1, c2, _⟩ := altR_inv (n := n) (flatT 5 l) [] ZS (flat_fit hf) (fun x hx => by cases hx) ZS_set
  rw [runs_zero, if_pos rfl] at b3
  rw [if_pos rfl] at b2
  simp only [nodL, wtL, Nat.zero_add, Nat.mul_zero, Nat.add_zero] at b2 b3
  have hmem : ∀ x ∈ (altR (flatT 5 l) [] ZS).1, x ∈ flatT 5 l := fun x hx => (b1 x hx).elim (fun q => by cases q) id
  have fin : ∀ o : List Sd, (∀ x ∈ o, plT x = true ∧ setsOk x ∧ kd x ≠ 5 ∧ kd x ≠ 1 ∧ (x ∈ flatT 5 l ∨ kd x = 3)) → riseL o = true → setsN o ≤ 1 → nodL o ≤ nodL l → wtL o ≤ wtL l →
      Gd (1 + nodL l) (2 + wtL l) (oneOf 5 noneT o) ∧ (kd (oneOf 5 noneT o) = 5 → ∀ x ∈ kk (oneOf 5 noneT o), (x ∈ flatT 5 l ∨ kd x = 3)) := by
    intro o hm hr hn1 hno hwo
    have hb := oneOf_bd (k := 5) (by decide) (a := noneT) rfl rfl o
    refine ⟨⟨?_, ?_, by omega, by omega⟩, fun hk x hx => ?_⟩
    · match o, hm, hr, hn1 with
      | [], _, _, _ => exact pl_none
      | [x], hm, _, _ => exact (hm x (by simp)).1
      | x :: y :: r, hm, hr, hn1 =>
        show plT (Rose.node (5, ZS, ()) (x :: y :: r)) = true
        rw [plT_eq, Bool.and_eq_true]
        refine ⟨form5.2 ⟨rfl, (by show 1 < r.length + 1 + 1; omega), badL_iff.2 fun z hz => ?_, hr, hn1⟩, plL_iff.2 fun z hz => (hm z hz).1⟩
        have := (hm z hz).2.2
        simp; omega
    · match o, hm with
      | [], _ => exact sok_none
      | [x], hm => exact (hm x (by simp)).2.1
      | x :: y :: r, hm => exact setsOk_iff.2 ⟨ZS_set, fun z hz => (hm z hz).2.1⟩
    · match o, hm, hk, hx with
      | [], _, hk, _ => exact absurd (show (1 : Int) = 5 from hk) (by decide)
      | [z], hm, hk, _ => exact absurd hk (hm z (by simp)).2.2.1
      | z :: y :: r, hm, _, hx => exact (hm x hx).2.2.2.2
  unfold altT
  generalize altR (flatT 5 l) [] ZS = p at *
  obtain ⟨out, s⟩ := p
  dsimp only at *
  by_cases hz : s = ZS
  · rw [if_pos hz] at b2 b3 ⊢
    exact fin out (fun x hx => ⟨hpl x (hmem x hx), hsk x (hmem x hx), (a1 x hx).1, (a1 x hx).2.1, Or.inl (hmem x hx)⟩) a2 (by rw [setsN_zero fun x hx => (a1 x hx).2.2]; omega) (by omega) (by omega)
  · rw [if_neg hz] at b2 b3 ⊢
    have hset : setsOk (Rose.node (3, s, ()) [] : Sd) := ⟨c2, trivial⟩
    obtain ⟨i1, i2⟩ := insT_nod out (Rose.node (3, s, ()) [])
    have w3 : wtT (Rose.node (3, s, ()) [] : Sd) = 2 + 9 * runsN s := rfl
    have n3 : nod (Rose.node (3, s, ()) [] : Sd) = 1 := rfl
    refine fin (insT out (Rose.node (3, s, ()) [])) (fun x hx => ?_) (insT_rise (fun y hy => (c1 y hy).2.2) hset a2) ?_ (by omega) (by omega)
    · rcases insT_mem hx with rfl | hx
      · exact ⟨pl_set hz, hset, (by show (3 : Int) ≠ 5; decide), (by show (3 : Int) ≠ 1; decide), Or.inr rfl⟩
      · exact ⟨hpl x (hmem x hx), hsk x (hmem x hx), (a1 x hx).1, (a1 x hx).2.1, Or.inl (hmem x hx)⟩
    · have := setsN_ins out (Rose.node (3, s, ()) [])
      rw [setsN_zero fun x hx => (a1 x hx).2.2] at this
      omega
end Go.Ab.T

/- Shown: what is made of numbers is plain and short. -/
namespace Go.Ab.T
open Go Go.Ab
set_option linter.unusedVariables false
set_option linter.unusedSimpArgs false
set_option maxRecDepth 20000
def star1 (u : Sd) : Sd := if kd u = 6 then u else if kd u = 1 ∨ kd u = 2 then emptyT else Rose.node (6, ZS, ()) [u]
noncomputable def starT (t : Sd) : Sd := if kd t = 5 ∧ (kk t).any (fun x => decide (kd x = 2)) = true then star1 (altT ((kk t).filter fun x => !decide (kd x = 2))) else star1 t
theorem star_l10 {R : Type} (kf : Nat) (k0 : Int) (s0 : List Int) (ks : List Sd) (v15 : Int) (v16 : List Int) (v18 : List Sd) (hl : ks.length ≤ 100000) (Ke : Int → List Int → List Sd → Int → List Int → List Sd → List Sd → Option R) (c : Int → List Int → List Sd → (Int → List Int → List Sd → Option R) → Option R) :
    ∀ (m k i : Nat) (acc : List Sd), i + m = ks.length → m < k → acc.length ≤ i → yy35_l10 c kf k k0 s0 ks v15 v16 v18 Ke (i : Int) acc = Ke k0 s0 ks v15 v16 (acc ++ (ks.drop i).filter fun x => !decide (kd x = 2)) v18
  | m, 0, i, acc, _, h, _ => by omega
  | 0, k + 1, i, acc, hi, _, _ => by
    unfold yy35_l10 yy35_l10_b
    rw [decide_eq_false (by omega), cond_false, List.drop_eq_nil_of_le (by omega)]; simp
  | m + 1, k + 1, i, acc, hi, hk, ha => by
    have g0 : decide (0 ≤ (i : Int)) = true := decide_eq_true (by omega)
    have g1 : decide ((i : Int) < (ks.length : Int)) = true := decide_eq_true (by omega)
    unfold yy35_l10 yy35_l10_b
    rw [getD_drop ks i (by omega) DD, List.filter_cons]
    simp only [g0, g1, gdt, cond_true]
    rw [show Int.toNat (i : Int) = i from rfl, wi1s i (by omega)]
    generalize ks.getD i DD = x at *
    by_cases h2 : kd x = 2
    · rw [decide_eq_true h2, Bool.not_true, cond_false, if_neg Bool.false_ne_true]
      exact star_l10 kf k0 s0 ks v15 v16 v18 hl Ke c m k (i + 1) acc (by omega) (by omega) (by omega)
    · rw [decide_eq_false h2, Bool.not_false, cond_true, if_pos rfl, gd_true (small_of (by simp; omega)), eta]
      rw [star_l10 kf k0 s0 ks v15 v16 v18 hl Ke c m k (i + 1) _ (by omega) (by omega) (by simp; omega)]
      simp
theorem filter_len {l : List Sd} (p : Sd → Bool) : (l.filter p).length < l.length ↔ l.any (fun x => !p x) = true := by
  induction l with
  | nil => simp
  | cons x l ih =>
    rw [List.filter_cons, List.any_cons]
    have hle := List.length_filter_le p l
    cases hp : p x with
    | true => rw [if_pos rfl, Bool.not_true, Bool.false_or, ← ih]; simp
    | false => rw [if_neg Bool.false_ne_true, Bool.not_false, Bool.true_or]; simp only [List.length_cons]; exact ⟨fun _ => trivial, fun _ => by omega⟩
def noE (t : Sd) : Prop := kd t = 5 → ∀ x ∈ kk t, kd x ≠ 2
theorem star1_ok {R : Type} (kf n : Nat) (hkf : 3000 + n ≤ kf) (t : Sd) (hf : Fit n t) (hn : noE t) (K : Int → List Int → List Sd → Option R) : yy35 (kf + 1) (kd t) (stt t) (kk t) K = K (kd (star1 t)) (stt (star1 t)) (kk (star1 t)) := by
  unfold yy35 yy35_b star1
  have hcp := fun K : Int → List Int → List Sd → Option R => copy_ok n t kf hf.1 hkf hf.2.1 K
  by_cases h6 : kd t = 6
  · rw [decide_eq_true h6, cond_true, if_pos h6, hcp]
  rw [decide_eq_false h6, cond_false, if_neg h6]
  dsimp only
  by_cases h1 : kd t = 1
  · rw [decide_eq_true h1, cond_true, if_pos (Or.inl h1)]; rfl
  rw [decide_eq_false h1, cond_false]
  by_cases h2 : kd t = 2
  · rw [decide_eq_true h2, cond_true, if_pos (Or.inr h2)]; rfl
  rw [decide_eq_false h2, cond_false, if_neg (fun q => q.elim h1 h2)]
  by_cases h5 : kd t = 5
  · rw [decide_eq_true h5, cond_true]
    have hkl := kk_len t
    have hn2 := hf.2.1
    refine (star_l10 kf (kd t) (stt t) (kk t) 0 ZS [] (by omega) _ (yy35 kf) (kk t).length kf 0 [] (by omega) (by omega) (by simp)).trans ?_
    rw [List.drop_zero, List.nil_append]
    have hfl : (kk t).filter (fun x => !decide (kd x = 2)) = kk t := List.filter_eq_self.2 fun x hx => by simp [hn h5 x hx]
    rw [hfl, decide_eq_false (by omega), cond_false, hcp, eta]
    rfl
  · rw [decide_eq_false h5, cond_false, hcp, eta]
    rfl
theorem star_ok {R : Type} (kf n : Nat) (hkf : 3000 + n ≤ kf) (t : Sd) (hf : Fit n t) (hp : plT t = true) (hn : nod t ≤ 900) (K : Int → List Int → List Sd → Option R) : yy35 (kf + 2) (kd t) (stt t) (kk t) K = K (kd (starT t)) (stt (starT t)) (kk (starT t)) := by
  unfold starT
  by_cases he : kd t = 5 ∧ (kk t).any (fun x => decide (kd x = 2)) = true
  rotate_left
  · rw [if_neg he]
    refine star1_ok (kf + 1) n (by omega) t hf (fun h5 x hx q => he ⟨h5, List.any_eq_true.2 ⟨x, hx, decide_eq_true q⟩⟩) K
  obtain ⟨h5, hany⟩ := he
  rw [if_pos ⟨h5, hany⟩]
  have hkl := kk_len t
  have hne := nod_eq t
  unfold yy35 yy35_b
  rw [decide_eq_false (by omega), cond_false]
  dsimp only
  rw [decide_eq_false (by omega), cond_false, decide_eq_false (by omega), cond_false, decide_eq_true h5, cond_true]
  refine (star_l10 (kf + 1) (kd t) (stt t) (kk t) 0 ZS [] (by omega) _ (yy35 (kf + 1)) (kk t).length (kf + 1) 0 [] (by omega) (by omega) (by simp)).trans ?_
  rw [List.drop_zero, List.nil_append]
  have hlt := (filter_len (l := kk t) fun x => !decide (kd x = 2)).2 (by simpa using hany)
  rw [decide_eq_true (by omega), cond_true]
  have hpk := pl_kids hp
  have hsk := (setsOk_iff.1 hf.2.2).2
  have hnl := nodL_filter (fun x => !decide (kd x = 2)) (kk t)
  have hm : ∀ x ∈ (kk t).filter (fun x => !decide (kd x = 2)), x ∈ kk t ∧ kd x ≠ 2 := fun x hx => by
    obtain ⟨a, b⟩ := List.mem_filter.1 hx
    exact ⟨a, by simpa using b⟩
  have hka := pl_alt hp h5
  have hfk : ∀ x ∈ kk t, Fit n x := fun x hx => by
    cases n with
    | zero => have := hf.1; have := dep_pos t; omega
    | succ n => exact (hf.kid hx).mono (by omega)
  generalize (kk t).filter (fun x => !decide (kd x = 2)) = l at *
  rw [alt_ok (kf + 1) n (by omega) l (by omega) fun x hx => hfk x (hm x hx).1]
  obtain ⟨g1, g2⟩ := alt_good (n := n) (l := l) (fun x hx => ⟨hpk x (hm x hx).1, hsk x (hm x hx).1⟩) fun x hx => hfk x (hm x hx).1
  have hfu : Fit (1 + nodL l) (altT l) := g1.fit (by omega)
  have hfd : Fit n (altT l) ∨ True := Or.inr trivial
  have hnoE : noE (altT l) := fun hk x hx => by
    rcases g2 hk x hx with q | q
    · rcases flat_mem q with ⟨q1, _⟩ | ⟨y, hy, hyk, _⟩
      · exact (hm x q1).2
      · exact absurd hyk (hka y (hm y hy).1).1
    · omega
  have hdp : dep (altT l) ≤ n := by
    have hdl : ∀ (k : Int) (a : Sd), dep a = 1 → 1 ≤ n → ∀ o : List Sd, (∀ x ∈ o, dep x + 1 ≤ n) → dep (oneOf k a o) ≤ n := by
      intro k a ha h1n o ho
      match o with
      | [] => show dep a ≤ n; omega
      | [x] => have := ho x (by simp); show dep x ≤ n; omega
      | x :: y :: r =>
        show depL (x :: y :: r) + 1 ≤ n
        have key : ∀ l : List Sd, l ≠ [] → (∀ x ∈ l, dep x + 1 ≤ n) → depL l + 1 ≤ n := by
          intro l
          induction l with
          | nil => intro h; exact absurd rfl h
          | cons z q ih =>
            intro _ hz
            have h1 := hz z (by simp)
            rw [show depL (z :: q) = max (dep z) (depL q) from rfl]
            cases q with
            | nil => rw [show depL [] = 0 from rfl]; omega
            | cons w q' => have := ih (by simp) fun y hy => hz y (by simp [hy]); omega
        exact key _ (by simp) ho
    have hdt := hf.1
    have hdk : ∀ x ∈ kk t, dep x + 1 ≤ n := fun x hx => by have := dep_kid hx; omega
    have h2n : 2 ≤ n := by
      obtain ⟨x, hx, _⟩ := List.any_eq_true.1 hany
      have := hdk x hx
      have := dep_pos x; omega
    have hflat : flatT 5 l = l := flat_id fun x hx => (hka x (hm x hx).1).1
    obtain ⟨b1, _, _⟩ := altR_bd (flatT 5 l) [] ZS (fun x hx => by rw [hflat] at hx; exact ⟨hpk x (hm x hx).1, hsk x (hm x hx).1⟩) ZS_set
    unfold altT
    rw [hflat] at b1 ⊢
    refine hdl 5 noneT rfl (by omega) _ fun x hx => ?_
    split at hx
    · rcases b1 x hx with q | q
      · cases q
      · exact hdk x (hm x q).1
    · rcases insT_mem hx with rfl | hx
      · show 1 + 1 ≤ n; omega
      · rcases b1 x hx with q | q
        · cases q
        · exact hdk x (hm x q).1
  exact star1_ok kf n hkf (altT l) ⟨hdp, by have := g1.nd; omega, g1.sk⟩ hnoE K
theorem star1_good {n w : Nat} {t : Sd} (h : Gd n w t) (hn : 1 ≤ n) (hw : 2 ≤ w) : Gd (n + 1) (w + 4) (star1 t) := by
  unfold star1
  split
  · exact ⟨h.pl, h.sk, by have := h.nd; omega, by have := h.wt; omega⟩
  split
  · exact Gd.empty _ _ (by omega) (by omega)
  · rename_i h6 h12
    refine ⟨?_, setsOk_iff.2 ⟨ZS_set, fun z hz => by rw [List.mem_singleton.1 hz]; exact h.sk⟩, ?_, ?_⟩
    · rw [plT_eq, Bool.and_eq_true]
      refine ⟨form6.2 ⟨rfl, rfl, badL_iff.2 fun z hz => ?_⟩, plL_iff.2 fun z hz => by rw [List.mem_singleton.1 hz]; exact h.pl⟩
      rw [List.mem_singleton.1 hz]
      simp; omega
    · show (nod t + 0) + 1 ≤ n + 1; have := h.nd; omega
    · rw [wtT_eq]
      show (if (6 : Int) = 3 then _ else 2 + ((wtT t + 2) + 0)) ≤ w + 4
      rw [if_neg (by decide)]; have := h.wt; omega
theorem star_good {n w m : Nat} {t : Sd} (h : Gd n w t) (hf : Fit m t) (hn : 1 ≤ n) (hw : 2 ≤ w) : Gd (n + 1) (w + 4) (starT t) := by
  unfold starT
  split
  rotate_left
  · exact star1_good h hn hw
  rename_i he
  have hpk := pl_kids h.pl
  have hsk := (setsOk_iff.1 h.sk).2
  have hnl := nodL_filter (fun x => !decide (kd x = 2)) (kk t)
  have hwl := wtL_filter (fun x => !decide (kd x = 2)) (kk t)
  have hm : ∀ x ∈ (kk t).filter (fun x => !decide (kd x = 2)), x ∈ kk t := fun x hx => (List.mem_filter.1 hx).1
  have hfk : ∀ x ∈ kk t, Fit m x := fun x hx => by
    cases m with
    | zero => have := hf.1; have := dep_pos t; omega
    | succ m => exact (hf.kid hx).mono (by omega)
  obtain ⟨g1, _⟩ := alt_good (n := m) (l := (kk t).filter fun x => !decide (kd x = 2)) (fun x hx => ⟨hpk x (hm x hx), hsk x (hm x hx)⟩) fun x hx => hfk x (hm x hx)
  have hne := nod_eq t
  have hwe := wtT_eq t
  rw [if_neg (by omega)] at hwe
  have h1 := h.nd
  have h2 := h.wt
  exact star1_good ⟨g1.pl, g1.sk, by have := g1.nd; omega, by have := g1.wt; omega⟩ hn hw
theorem pnum {R : Type} (q : Nat) (hq : 1 ≤ q) (l : List Int) (hl : ∀ x ∈ l, 0 ≤ x ∧ x ≤ 255) (hll : l.length ≤ 1000) (p : Nat) (hp : p ≤ l.length) :
    ∃ t p' : Nat, t < q ∧ p ≤ p' ∧ p' ≤ l.length ∧ (p < l.length → p' = p + 1) ∧ (l.length ≤ p → t = 0) ∧ ∀ K : Int → List Int → Int → Option R, yy11 (q : Int) l (p : Int) K = K (t : Int) l (p' : Int) := by
  unfold yy11 yy11_b
  by_cases h : l.length ≤ p
  · exact ⟨0, p, by omega, by omega, hp, fun q => by omega, fun _ => rfl, fun K => by rw [decide_eq_true (by omega), cond_true]; rfl⟩
  have hx := hl _ (getD_mem l p (by omega) 0)
  obtain ⟨x, hxe⟩ := Int.eq_ofNat_of_zero_le hx.1
  refine ⟨x % q, p + 1, Nat.mod_lt _ (by omega), by omega, by omega, fun _ => rfl, fun q => by omega, fun K => ?_⟩
  have e1 : IntKind.i64.wrap (IntKind.i64.wrap ((p : Int) + 1) - 1) = (p : Int) := by simp only [IntKind.wrap_i64]; omega
  rw [decide_eq_false (by omega), cond_false, e1, gd_true (decide_eq_true (by omega)), gd_true (decide_eq_true (by omega)), gd_true (decide_eq_true (by omega)), show Int.toNat (p : Int) = p from rfl, hxe]
  dsimp only
  rw [show IntKind.i64.wrap (x : Int) = (x : Int) by rw [IntKind.wrap_i64]; omega, wi1s p (by omega), Int.tmod_eq_emod_of_nonneg (by omega)]
  rfl
theorem w97 (v : Nat) (hv : v < 4) : IntKind.u8.wrap (IntKind.i64.wrap (97 + (v : Int))) = ((97 + v : Nat) : Int) := by
  have e1 : (97 : Int) + (v : Int) = ((97 + v : Nat) : Int) := by omega
  have e2 : ∀ n : Nat, n < 200 → IntKind.i64.wrap (n : Int) = (n : Int) := fun n hn => by rw [IntKind.wrap_i64]; omega
  have e3 : ∀ n : Nat, n < 200 → IntKind.u8.wrap (n : Int) = (n : Int) := fun n hn => by rw [IntKind.wrap_u8]; omega
  rw [e1, e2 _ (by omega), e3 _ (by omega)]
theorem pset {R : Type} (kf : Nat) (hkf : 3000 ≤ kf) (l : List Int) (hl : ∀ x ∈ l, 0 ≤ x ∧ x ≤ 255) (hll : l.length ≤ 1000) (p : Nat) (hp : p ≤ l.length) :
    ∃ (s : List Int) (p' : Nat), isSet s ∧ runsN s ≤ 3 ∧ p ≤ p' ∧ p' ≤ l.length ∧ ∀ K : List Int → List Int → Int → Option R, yy10 kf l (p : Int) K = K s l (p' : Int) := by
  obtain ⟨t, p1, ht, h1, h2, _, _, hK⟩ := pnum (R := R) 8 (by omega) l hl hll p hp
  have of1 : ∀ v : Nat, v < 4 → ∀ K : List Int → Option R, yy17 kf [IntKind.u8.wrap (IntKind.i64.wrap (97 + (v : Int)))] K = K (setOf fun b => decide ((b : Int) ∈ [((97 + v : Nat) : Int)])) := fun v hv K => by
    have e := w97 v hv
    rw [e, rof_s kf _ (by intro x hx; rw [List.mem_singleton.1 hx]; omega) (by simp) (by omega)]
  by_cases t0 : t = 0
  · subst t0
    refine ⟨_, p1, setOf_isSet _, Nat.le_trans (runs_range 97 100) (by omega), h1, h2, fun K => ?_⟩
    unfold yy10 yy10_b
    rw [show (8 : Int) = ((8 : Nat) : Int) from rfl, hK]
    exact rrange_s kf (by omega) 97 100 (by omega) (by omega) _
  by_cases t1 : t = 1
  · subst t1
    obtain ⟨f, p2, hf, a1, a2, _, _, hK2⟩ := pnum (R := R) 256 (by omega) l hl hll p1 h2
    obtain ⟨g, p3, hg, b1, b2, _, _, hK3⟩ := pnum (R := R) 256 (by omega) l hl hll p2 a2
    refine ⟨_, p3, setOf_isSet _, Nat.le_trans (runs_range f g) (by omega), by omega, b2, fun K => ?_⟩
    unfold yy10 yy10_b
    rw [show (8 : Int) = ((8 : Nat) : Int) from rfl, hK]
    rw [show decide (((1 : Nat) : Int) = 0) = false from rfl, cond_false, show decide (((1 : Nat) : Int) = 1) = true from rfl, cond_true, show (256 : Int) = ((256 : Nat) : Int) from rfl, hK2, hK3]
    rw [show IntKind.u8.wrap (f : Int) = (f : Int) by rw [IntKind.wrap_u8]; omega, show IntKind.u8.wrap (g : Int) = (g : Int) by rw [IntKind.wrap_u8]; omega]
    exact rrange_s kf (by omega) f g hf hg _
  by_cases t2 : t = 2
  · subst t2
    obtain ⟨f, p2, hf, a1, a2, _, _, hK2⟩ := pnum (R := R) 4 (by omega) l hl hll p1 h2
    refine ⟨_, p2, setOf_isSet _, Nat.le_trans (runs_not ((97 + f : Nat) : Int)) (by omega), by omega, a2, fun K => ?_⟩
    unfold yy10 yy10_b
    rw [show (8 : Int) = ((8 : Nat) : Int) from rfl, hK]
    rw [show decide (((2 : Nat) : Int) = 0) = false from rfl, cond_false, show decide (((2 : Nat) : Int) = 1) = false from rfl, cond_false, show decide (((2 : Nat) : Int) = 2) = true from rfl, cond_true, show (4 : Int) = ((4 : Nat) : Int) from rfl, hK2, of1 f hf]
    exact rnot_s kf (by omega) _ _
  by_cases t3 : t = 3
  · subst t3
    obtain ⟨f, p2, hf, a1, a2, _, _, hK2⟩ := pnum (R := R) 4 (by omega) l hl hll p1 h2
    obtain ⟨g, p3, hg, b1, b2, _, _, hK3⟩ := pnum (R := R) 4 (by omega) l hl hll p2 a2
    obtain ⟨h, p4, hh, c1, c2, _, _, hK4⟩ := pnum (R := R) 256 (by omega) l hl hll p3 b2
    refine ⟨_, p4, setOf_isSet _, (runs_of [((97 + f : Nat) : Int), ((97 + g : Nat) : Int), (h : Int)] (by intro x hx; simp at hx; omega)), by omega, c2, fun K => ?_⟩
    unfold yy10 yy10_b
    rw [show (8 : Int) = ((8 : Nat) : Int) from rfl, hK]
    rw [show decide (((3 : Nat) : Int) = 0) = false from rfl, cond_false, show decide (((3 : Nat) : Int) = 1) = false from rfl, cond_false, show decide (((3 : Nat) : Int) = 2) = false from rfl, cond_false, show decide (((3 : Nat) : Int) = 3) = true from rfl, cond_true, show (4 : Int) = ((4 : Nat) : Int) from rfl, hK2, hK3, show (256 : Int) = ((256 : Nat) : Int) from rfl, hK4]
    have e1 := w97 f hf
    have e2 := w97 g hg
    have e3 : IntKind.u8.wrap (h : Int) = (h : Int) := by rw [IntKind.wrap_u8]; omega
    rw [e1, e2, e3]
    exact rof_s kf _ (by intro x hx; simp at hx; omega) (by simp) (by omega) _
  by_cases t4 : t = 4
  · subst t4
    refine ⟨_, p1, setOf_isSet _, Nat.le_trans (runs_range 0 255) (by omega), h1, h2, fun K => ?_⟩
    unfold yy10 yy10_b
    rw [show (8 : Int) = ((8 : Nat) : Int) from rfl, hK]
    exact rrange_s kf (by omega) 0 255 (by omega) (by omega) _
  · obtain ⟨f, p2, hf, a1, a2, _, _, hK2⟩ := pnum (R := R) 4 (by omega) l hl hll p1 h2
    refine ⟨_, p2, setOf_isSet _, Nat.le_trans (runs_of [((97 + f : Nat) : Int)] (by intro x hx; simp at hx; omega)) (by simp), by omega, a2, fun K => ?_⟩
    unfold yy10 yy10_b
    rw [show (8 : Int) = ((8 : Nat) : Int) from rfl, hK]
    rw [decide_eq_false (by omega), cond_false, decide_eq_false (by omega), cond_false, decide_eq_false (by omega), cond_false, decide_eq_false (by omega), cond_false, decide_eq_false (by omega), cond_false, show (4 : Int) = ((4 : Nat) : Int) from rfl, hK2, of1 f hf]
end Go.Ab.T

/- Shown: the laws ShowMade, ShowParts. -/
namespace Go.Ab.T
open Go Go.Ab
set_option linter.unusedVariables false
set_option linter.unusedSimpArgs false
set_option maxRecDepth 20000
theorem Gd.mono {n w n' w' : Nat} {t : Sd} (h : Gd n w t) (hn : n ≤ n') (hw : w ≤ w') : Gd n' w' t := ⟨h.pl, h.sk, by have := h.nd; omega, by have := h.wt; omega⟩
theorem showT_made {t : Sd} (h : Gd 201 3529 t) : showT t = textT t := by
  unfold showT
  rw [if_pos ⟨h.pl, by have := text_wt _ t (Nat.le_refl _) h.pl h.sk; have := h.wt; omega⟩]
end Go.Ab.T

/- Shown and read again: signs. -/
namespace Go.Ab.T
open Go Go.Ab
set_option linter.unusedVariables false
set_option linter.unusedSimpArgs false
set_option maxRecDepth 20000
theorem wi_n (n : Nat) (h : n < 4000000000000000000) : IntKind.i64.wrap (n : Int) = (n : Int) := by rw [IntKind.wrap_i64]; omega
abbrev RK (R : Type) := List Int → Int → Int → Int → Bool → Option R
theorem next_c {R : Type} {T : List Int} {p : Nat} {c : Int} {r : List Int} (h : T.drop p = c :: r) (d : Int) (K : Int → Bool → List Int → Int → Int → Int → Bool → Option R) :
    yy48 T (p : Int) d (-1) false K = K c true T (p : Int) d (-1) false := by
  have hl : p < T.length := by
    apply Nat.lt_of_not_le
    intro q
    rw [List.drop_eq_nil_of_le q] at h; cases h
  have hc : T.getD p 0 = c := by
    have := getD_drop T p hl 0
    rw [h] at this
    injection this with a _
    exact a.symm
  unfold yy48 yy48_b
  rw [decide_eq_true (by omega), cond_true, gd_true (decide_eq_true (by omega)), gdt, show Int.toNat (p : Int) = p from rfl, hc]
theorem next_end {R : Type} {T : List Int} {p : Nat} (h : T.drop p = []) (d : Int) (K : Int → Bool → List Int → Int → Int → Int → Bool → Option R) :
    yy48 T (p : Int) d (-1) false K = K 0 false T (p : Int) d (-1) false := by
  have hl : T.length ≤ p := List.drop_eq_nil_iff.1 h
  unfold yy48 yy48_b
  rw [decide_eq_false (by omega), cond_false]
theorem is_c {R : Type} {T : List Int} {p : Nat} {c : Int} {r : List Int} (h : T.drop p = c :: r) (x d : Int) (K : Bool → List Int → Int → Int → Int → Bool → Option R) :
    yy46 x T (p : Int) d (-1) false K = K (decide (c = x)) T (p : Int) d (-1) false := by
  unfold yy46 yy46_b
  rw [next_c h]; rfl
theorem is_end {R : Type} {T : List Int} {p : Nat} (h : T.drop p = []) (x d : Int) (K : Bool → List Int → Int → Int → Int → Bool → Option R) :
    yy46 x T (p : Int) d (-1) false K = K false T (p : Int) d (-1) false := by
  unfold yy46 yy46_b
  rw [next_end h]; rfl
theorem over_f {R : Type} (T : List Int) (p d : Int) (K : Bool → List Int → Int → Int → Int → Bool → Option R) : yy49 T p d (-1) false K = K false T p d (-1) false := rfl
theorem drop_more {T : List Int} {p : Nat} {X r : List Int} (h : T.drop p = X ++ r) : T.drop (p + X.length) = r := by
  rw [← List.drop_drop, h, List.drop_left]
theorem hex_ok {R : Type} (n : Nat) (hn : n < 16) (K : Int → Option R) : yy39 (HEX.getD n 0) K = K (n : Int) := by
  match n, hn with
  | 0, _ => rfl
  | 1, _ => rfl
  | 2, _ => rfl
  | 3, _ => rfl
  | 4, _ => rfl
  | 5, _ => rfl
  | 6, _ => rfl
  | 7, _ => rfl
  | 8, _ => rfl
  | 9, _ => rfl
  | 10, _ => rfl
  | 11, _ => rfl
  | 12, _ => rfl
  | 13, _ => rfl
  | 14, _ => rfl
  | 15, _ => rfl
  | n + 16, h => exact absurd h (by omega)
theorem esc_hex {R : Type} (kf : Nat) (hkf : 200 ≤ kf) {T : List Int} {p : Nat} (a b : Nat) (ha : a < 16) (hb : b < 16) {r : List Int} (h : T.drop p = [92, 120, HEX.getD a 0, HEX.getD b 0] ++ r) (hp : p ≤ 1000000) (d : Int) (K : Int → RK R) :
    yy44 kf T (p : Int) d (-1) false K = K ((16 * a + b : Nat) : Int) T ((p + 4 : Nat) : Int) d (-1) false := by
  have h1 : T.drop (p + 1) = 120 :: ([HEX.getD a 0, HEX.getD b 0] ++ r) := drop_more (X := [92]) h
  have h2 : T.drop (p + 2) = HEX.getD a 0 :: ([HEX.getD b 0] ++ r) := drop_more (X := [92, 120]) h
  have h3 : T.drop (p + 3) = HEX.getD b 0 :: r := drop_more (X := [92, 120, HEX.getD a 0]) h
  obtain ⟨k, rfl⟩ : ∃ k, kf = k + 3 := ⟨kf - 3, by omega⟩
  unfold yy44 yy44_b
  rw [wi1s p (by omega), next_c h1]
  dsimp only
  rw [cond_true, rin_ok (k + 3) hkf ESC 120 (by decide), show decide ((120 : Int) ∈ ESC) = false from by decide, cond_false, Bool.not_true, cond_false, show (!decide ((120 : Int) = 120)) = false from rfl, cond_false]
  rw [yy44_l11]
  unfold yy44_l11_b
  rw [show decide ((0 : Int) < 2) = true from rfl, cond_true, wi1s (p + 1) (by omega), show p + 1 + 1 = p + 2 from rfl, next_c h2]
  dsimp only
  rw [Bool.not_true, cond_false, hex_ok a ha, decide_eq_false (by omega), cond_false, hex_ok a ha]
  have e0 : IntKind.i64.wrap (IntKind.i64.wrap (mulZ 0 16) + (a : Int)) = (a : Int) := by
    have : mulZ 0 16 = 0 := by unfold mulZ; rw [wall_eq]; rfl
    rw [this, show IntKind.i64.wrap 0 = 0 from rfl, Int.zero_add, wi_n a (by omega)]
  rw [e0, show IntKind.i64.wrap ((0 : Int) + 1) = 1 from rfl]
  rw [yy44_l11]
  unfold yy44_l11_b
  rw [show decide ((1 : Int) < 2) = true from rfl, cond_true, wi1s (p + 2) (by omega), show p + 2 + 1 = p + 3 from rfl, next_c h3]
  dsimp only
  rw [Bool.not_true, cond_false, hex_ok b hb, decide_eq_false (by omega), cond_false, hex_ok b hb]
  have e1 : IntKind.i64.wrap (IntKind.i64.wrap (mulZ (a : Int) 16) + (b : Int)) = ((16 * a + b : Nat) : Int) := by
    have : mulZ (a : Int) 16 = ((16 * a : Nat) : Int) := by unfold mulZ; rw [wall_eq]; omega
    rw [this, wi_n (16 * a) (by omega), show ((16 * a : Nat) : Int) + (b : Int) = ((16 * a + b : Nat) : Int) by omega, wi_n _ (by omega)]
  rw [e1, show IntKind.i64.wrap ((1 : Int) + 1) = 2 from rfl]
  rw [yy44_l11]
  unfold yy44_l11_b
  rw [show decide ((2 : Int) < 2) = false from rfl, cond_false]
  dsimp only
  rw [wi1s (p + 3) (by omega)]
  have e2 : ∀ n : Nat, n < 256 → IntKind.u8.wrap (n : Int) = (n : Int) := fun n hn => by rw [IntKind.wrap_u8]; omega
  rw [e2 _ (by omega)]
theorem esc_ok {R : Type} (kf : Nat) (hkf : 200 ≤ kf) {T : List Int} {p : Nat} {c : Int} (hc : c ∈ ESC) {r : List Int} (h : T.drop p = [92, c] ++ r) (hp : p ≤ 1000000) (d : Int) (K : Int → RK R) :
    yy44 kf T (p : Int) d (-1) false K = K c T ((p + 2 : Nat) : Int) d (-1) false := by
  have h1 : T.drop (p + 1) = c :: r := drop_more (X := [92]) h
  unfold yy44 yy44_b
  rw [wi1s p (by omega), next_c h1]
  dsimp only
  rw [cond_true, rin_ok kf hkf ESC c (by decide), decide_eq_true hc, cond_true, wi1s (p + 1) (by omega)]
theorem sgn_ok {R : Type} (kf : Nat) (hkf : 200 ≤ kf) (cl : Bool) {T : List Int} {p : Nat} {c : Int} (hc : 0 ≤ c ∧ c ≤ 255) {r : List Int} (h : T.drop p = signT c ++ r) (hp : p ≤ 1000000) (d : Int) (K : Int → RK R) :
    yy51 kf cl T (p : Int) d (-1) false K = K c T ((p + (signT c).length : Nat) : Int) d (-1) false := by
  unfold yy51 yy51_b
  unfold signT at h ⊢
  by_cases he : c ∈ ESC
  · rw [if_pos he] at h ⊢
    rw [next_c (c := 92) (r := c :: r) h]
    dsimp only
    rw [cond_true, show decide ((92 : Int) = 92) = true from rfl, cond_true]
    exact esc_ok kf hkf he h hp d K
  rw [if_neg he] at h ⊢
  by_cases hr : 32 ≤ c ∧ c ≤ 126
  · rw [if_pos hr] at h ⊢
    rw [next_c (c := c) (r := r) h]
    dsimp only
    have h92 : c ≠ 92 := fun q => he (by rw [q]; decide)
    have hsp : c ∉ ([92, 124, 42, 43, 63, 40, 41, 91, 93, 46] : List Int) := fun q => he (by
      simp only [List.mem_cons, List.not_mem_nil, or_false] at q ⊢
      omega)
    have h94 : c ≠ 94 := fun q => he (by rw [q]; decide)
    have h45 : c ≠ 45 := fun q => he (by rw [q]; decide)
    rw [cond_true, decide_eq_false h92, cond_false, Bool.not_true, cond_false, decide_eq_false (by omega), cond_false, decide_eq_false (by omega), cond_false]
    rw [rin_ok kf hkf _ c (by decide), decide_eq_false hsp, cond_false, decide_eq_false h94, decide_eq_false h45, wi1s p (by omega)]
    cases cl <;> rfl
  · rw [if_neg hr] at h ⊢
    rw [next_c (c := 92) (r := 120 :: HEX.getD (c / 16).toNat 0 :: HEX.getD (c % 16).toNat 0 :: r) h]
    dsimp only
    rw [cond_true, show decide ((92 : Int) = 92) = true from rfl, cond_true]
    refine (esc_hex kf hkf (c / 16).toNat (c % 16).toNat (by omega) (by omega) h hp d _).trans ?_
    rw [show ((16 * (c / 16).toNat + (c % 16).toNat : Nat) : Int) = c by omega]
    rfl
theorem sign_hd (c : Int) : ∃ x r, signT c = x :: r ∧ x ≠ 45 ∧ x ≠ 93 ∧ x ≠ 94 ∧ x ≠ 124 ∧ x ≠ 41 ∧ x ≠ 91 ∧ x ≠ 46 ∧ x ≠ 40 ∧ x ≠ 42 ∧ x ≠ 43 ∧ x ≠ 63 := by
  unfold signT
  by_cases he : c ∈ ESC
  · rw [if_pos he]; exact ⟨92, [c], rfl, by decide, by decide, by decide, by decide, by decide, by decide, by decide, by decide, by decide, by decide, by decide⟩
  rw [if_neg he]
  by_cases hr : 32 ≤ c ∧ c ≤ 126
  · rw [if_pos hr]
    simp only [List.mem_cons, List.not_mem_nil, or_false, not_or] at he
    exact ⟨c, [], rfl, by omega, by omega, by omega, by omega, by omega, by omega, by omega, by omega, by omega, by omega, by omega⟩
  · rw [if_neg hr]; exact ⟨92, _, rfl, by decide, by decide, by decide, by decide, by decide, by decide, by decide, by decide, by decide, by decide, by decide⟩
end Go.Ab.T

/- Shown and read again: classes. -/
namespace Go.Ab.T
open Go Go.Ab
set_option linter.unusedVariables false
set_option linter.unusedSimpArgs false
set_option maxRecDepth 20000
abbrev CK (R : Type) := Bool → List Int → Int → Int → Int → Bool → Int → List Int → List Int → List Sd → Option R
theorem cl_one {R : Type} (kf : Nat) (hkf : 3000 ≤ kf) (k : Nat) (ot : Bool) (v19 : Int) (v20 : List Int) (v22 : List Sd) (Ke : CK R) {T : List Int} {p : Nat} (hp : p ≤ 1000000) (c : Nat) (hc : c < 256) {y : Int} {r : List Int} (h : T.drop p = signT (c : Int) ++ y :: r) (hy : y ≠ 45) (d : Int) (P : Nat → Bool) :
    yy43_l6 kf (k + 1) ot v19 v20 v22 Ke T (p : Int) d (-1) false (setOf P) = yy43_l6 kf k ot v19 v20 v22 Ke T ((p + (signT (c : Int)).length : Nat) : Int) d (-1) false (setOf fun b => P b || decide (c ≤ b ∧ b ≤ c)) := by
  obtain ⟨x, t, hx, n45, n93, _⟩ := sign_hd (c : Int)
  rw [yy43_l6]
  unfold yy43_l6_b
  rw [over_f, Bool.not_false, cond_true, is_c (c := x) (r := t ++ y :: r) (by rw [h, hx]; rfl)]
  try dsimp only
  rw [decide_eq_false n93, Bool.not_false, cond_true, sgn_ok kf (by omega) true (by omega) h hp]
  try dsimp only
  have h2 := drop_more h
  rw [over_f]
  try dsimp only
  rw [Bool.not_false, cond_true, is_c h2]
  try dsimp only
  rw [decide_eq_false hy, cond_false, rrange_s kf (by omega) c c hc hc, ror_s kf (by omega)]
theorem cl_two {R : Type} (kf : Nat) (hkf : 3000 ≤ kf) (k : Nat) (ot : Bool) (v19 : Int) (v20 : List Int) (v22 : List Sd) (Ke : CK R) {T : List Int} {p : Nat} (hp : p ≤ 900000) (a b : Nat) (hab : a ≤ b) (hb : b < 256) {r : List Int} (h : T.drop p = signT (a : Int) ++ ([45] ++ (signT (b : Int) ++ r))) (d : Int) (P : Nat → Bool) :
    yy43_l6 kf (k + 1) ot v19 v20 v22 Ke T (p : Int) d (-1) false (setOf P) = yy43_l6 kf k ot v19 v20 v22 Ke T ((p + (signT (a : Int) ++ ([45] ++ signT (b : Int))).length : Nat) : Int) d (-1) false (setOf fun x => P x || decide (a ≤ x ∧ x ≤ b)) := by
  obtain ⟨x, t, hx, n45, n93, _⟩ := sign_hd (a : Int)
  have hla := signT_len (a : Int)
  rw [yy43_l6]
  unfold yy43_l6_b
  rw [over_f, Bool.not_false, cond_true, is_c (c := x) (r := t ++ ([45] ++ (signT (b : Int) ++ r))) (by rw [h, hx]; rfl)]
  try dsimp only
  rw [decide_eq_false n93, Bool.not_false, cond_true, sgn_ok kf (by omega) true (by omega) h (by omega)]
  try dsimp only
  have h2 := drop_more h
  rw [over_f]
  try dsimp only
  rw [Bool.not_false, cond_true, is_c (c := 45) (r := signT (b : Int) ++ r) h2]
  try dsimp only
  rw [show decide ((45 : Int) = 45) = true from rfl, cond_true, wi1s _ (by omega)]
  have h3 := drop_more (X := [45]) h2
  rw [show p + (signT (a : Int)).length + ([45] : List Int).length = p + (signT (a : Int)).length + 1 from rfl] at h3
  rw [sgn_ok kf (by omega) true (by omega) h3 (by omega)]
  try dsimp only
  rw [decide_eq_false (by omega), cond_false, rrange_s kf (by omega) a b (by omega) hb, ror_s kf (by omega)]
  congr 2
  simp only [List.length_append, List.length_singleton]
  omega
structure Inc (l : List Int) : Prop where
  byte : ∀ i, i < l.length → ∃ n : Nat, n < 256 ∧ l.getD i 0 = (n : Int)
  lt : ∀ i j, i < j → j < l.length → l.getD i 0 < l.getD j 0
theorem endR_run {l : List Int} (hl : Inc l) : ∀ (m i j : Nat), i < l.length → i ≤ j → j ≤ endR l m i → l.getD j 0 = l.getD i 0 + ((j - i : Nat) : Int)
  | 0, i, j, hi, h1, h2 => by
    have : j = i := by unfold endR at h2; omega
    subst this; simp
  | m + 1, i, j, hi, h1, h2 => by
    by_cases hji : j = i
    · subst hji; simp
    unfold endR at h2
    split at h2
    · rename_i hc
      have ih := endR_run hl m (i + 1) j hc.1 (by omega) h2
      have hlt := hl.lt i (i + 1) (by omega) hc.1
      obtain ⟨n, hn, hne⟩ := hl.byte i hi
      have hc2 := hc.2
      rw [hne] at hc2 hlt ⊢
      have hw : IntKind.u8.wrap ((n : Int) + 1) = (n : Int) + 1 := by
        by_cases h255 : n = 255
        · subst h255
          rw [hc2] at hlt
          rw [show IntKind.u8.wrap (((255 : Nat) : Int) + 1) = 0 from by decide] at hlt
          omega
        · rw [IntKind.wrap_u8]; omega
      rw [ih, hc2, hw]; omega
    · omega
theorem mem_take_iff {l : List Int} {n : Nat} {x : Int} (hn : n ≤ l.length) : x ∈ l.take n ↔ ∃ j, j < n ∧ l.getD j 0 = x := by
  constructor
  · intro h
    obtain ⟨j, hj, rfl⟩ := List.getElem_of_mem h
    rw [List.length_take] at hj
    refine ⟨j, by omega, ?_⟩
    rw [List.getElem_take, List.getD_eq_getElem?_getD, List.getElem?_eq_getElem (by omega)]; rfl
  · rintro ⟨j, hj, rfl⟩
    have : l.getD j 0 = (l.take n).getD j 0 := by
      rw [List.getD_eq_getElem?_getD, List.getD_eq_getElem?_getD, List.getElem?_take, if_pos hj]
    rw [this]
    exact getD_mem _ j (by rw [List.length_take]; omega) 0
theorem pre_step {l : List Int} (hl : Inc l) {i k : Nat} (hik : i ≤ k) (hk : k < l.length) (hrun : ∀ j, i ≤ j → j ≤ k → l.getD j 0 = l.getD i 0 + ((j - i : Nat) : Int)) {a b : Nat} (ha : l.getD i 0 = (a : Int)) (hb : l.getD k 0 = (b : Int)) (x : Nat) :
    (decide ((x : Int) ∈ l.take i) || decide (a ≤ x ∧ x ≤ b)) = decide ((x : Int) ∈ l.take (k + 1)) := by
  rw [Bool.eq_iff_iff, Bool.or_eq_true, decide_eq_true_eq, decide_eq_true_eq, decide_eq_true_eq, mem_take_iff (by omega), mem_take_iff (by omega)]
  constructor
  · rintro (⟨j, hj, he⟩ | ⟨h1, h2⟩)
    · exact ⟨j, by omega, he⟩
    · have hkk := hrun k hik (Nat.le_refl _)
      rw [ha, hb] at hkk
      refine ⟨i + (x - a), by omega, ?_⟩
      rw [hrun _ (by omega) (by omega), ha]; omega
  · rintro ⟨j, hj, he⟩
    by_cases hji : j < i
    · exact Or.inl ⟨j, hji, he⟩
    · right
      have hkk := hrun k hik (Nat.le_refl _)
      have hjj := hrun j (by omega) (by omega)
      rw [ha] at hkk hjj
      omega
theorem runs_hd (l : List Int) : ∀ (m i : Nat), l.length ≤ i + m → ∃ y t, runsT l m i ++ [93] = y :: t ∧ y ≠ 45 ∧ y ≠ 94
  | 0, i, _ => ⟨93, [], rfl, by decide, by decide⟩
  | m + 1, i, h => by
    unfold runsT
    split
    · obtain ⟨x, t, hx, n45, _, n94, _⟩ := sign_hd (l.getD i 0)
      unfold pieceT
      rw [hx]
      exact ⟨x, _, rfl, n45, n94⟩
    · exact ⟨93, [], rfl, by decide, by decide⟩
theorem cl_loop {R : Type} (kf : Nat) (hkf : 3000 ≤ kf) (ot : Bool) (v19 : Int) (v20 : List Int) (v22 : List Sd) (Ke : CK R) {T : List Int} {l : List Int} (hl : Inc l) (hlen : l.length ≤ 256) (r : List Int) (d : Int) :
    ∀ (m k i p : Nat), l.length ≤ i + m → i ≤ l.length → 2 * m + 2 < k → p + 9 * m ≤ 900000 → T.drop p = runsT l m i ++ 93 :: r →
    yy43_l6 kf k ot v19 v20 v22 Ke T (p : Int) d (-1) false (setOf fun b => decide ((b : Int) ∈ l.take i)) = Ke ot T ((p + (runsT l m i).length : Nat) : Int) d (-1) false v19 v20 (setOf fun b => decide ((b : Int) ∈ l)) v22 := by
  have stop : ∀ (k i p : Nat), l.length ≤ i → 0 < k → T.drop p = 93 :: r → yy43_l6 kf k ot v19 v20 v22 Ke T (p : Int) d (-1) false (setOf fun b => decide ((b : Int) ∈ l.take i)) = Ke ot T (p : Int) d (-1) false v19 v20 (setOf fun b => decide ((b : Int) ∈ l)) v22 := by
    intro k i p hi hk h
    obtain ⟨k, rfl⟩ : ∃ k', k = k' + 1 := ⟨k - 1, by omega⟩
    rw [yy43_l6, List.take_of_length_le hi]
    unfold yy43_l6_b
    rw [over_f]
    try dsimp only
    rw [Bool.not_false, cond_true, is_c h]
    rfl
  intro m
  induction m with
  | zero =>
    intro k i p hi hil hk hp h
    rw [show (runsT l 0 i).length = 0 from rfl, Nat.add_zero]
    exact stop k i p (by omega) (by omega) h
  | succ m ih =>
    intro k i p hi hil hk hp h
    unfold runsT at h ⊢
    by_cases hlt : i < l.length
    rotate_left
    · rw [if_neg hlt] at h ⊢
      exact stop k i p (by omega) (by omega) h
    rw [if_pos hlt] at h ⊢
    obtain ⟨e1, e2⟩ := endR_ge l l.length i
    have e2 := e2 hlt
    have hrun := fun j h1 h2 => endR_run hl l.length i j hlt h1 h2
    have hpl := pieceT_len l i (endR l l.length i)
    generalize endR l l.length i = q at *
    obtain ⟨a, ha, hae⟩ := hl.byte i hlt
    obtain ⟨b, hb, hbe⟩ := hl.byte q e2
    have hqq := hrun q e1 (Nat.le_refl _)
    have hstep := fun x => pre_step hl e1 e2 hrun hae hbe x
    obtain ⟨k, rfl⟩ : ∃ k', k = k' + 2 := ⟨k - 2, by omega⟩
    have hrest : T.drop (p + (pieceT l i q).length) = runsT l m (q + 1) ++ 93 :: r := by
      rw [List.append_assoc] at h
      exact drop_more h
    have fin := fun k' (hk' : 2 * m + 2 < k') => ih k' (q + 1) (p + (pieceT l i q).length) (by omega) (by omega) hk' (by omega) hrest
    obtain ⟨y, t, hy, ny, _⟩ := runs_hd l m (q + 1) (by omega)
    have hyr : runsT l m (q + 1) ++ 93 :: r = y :: (t ++ r) := by
      rw [show (93 : Int) :: r = [93] ++ r from rfl, ← List.append_assoc, hy]; rfl
    rw [List.length_append, ← Nat.add_assoc]
    unfold pieceT at h hrest fin ⊢
    rw [hae, hbe] at h hrest fin ⊢
    have hset : (setOf fun x => decide ((x : Int) ∈ l.take i) || decide (a ≤ x ∧ x ≤ b)) = setOf fun x => decide ((x : Int) ∈ l.take (q + 1)) := setOf_congr fun x _ => hstep x
    by_cases q1 : i + 1 < q
    · rw [if_pos q1, if_pos (by omega)] at h hrest fin ⊢
      rw [cl_two kf hkf (k + 1) ot v19 v20 v22 Ke (by omega) a b (by omega) hb (r := runsT l m (q + 1) ++ 93 :: r) (by rw [h]; simp) d, hset]
      exact fin (k + 1) (by omega)
    · rw [if_neg q1, List.nil_append] at h hrest fin ⊢
      by_cases q2 : i < q
      · rw [if_pos q2] at h hrest fin ⊢
        have hq : q = i + 1 := by omega
        have hab : b = a + 1 := by rw [hae, hbe, hq] at hqq; omega
        obtain ⟨z, u, hz, nz, _⟩ := sign_hd (b : Int)
        rw [cl_one kf hkf (k + 1) ot v19 v20 v22 Ke (by omega) a ha (y := z) (r := u ++ (runsT l m (q + 1) ++ 93 :: r)) (by rw [h, hz]; simp) nz d]
        have h2 : T.drop (p + (signT (a : Int)).length) = signT (b : Int) ++ y :: (t ++ r) := by
          rw [← hyr]
          refine drop_more (X := signT (a : Int)) ?_
          rw [h]; simp
        have hla := signT_len (a : Int)
        rw [cl_one kf hkf k ot v19 v20 v22 Ke (by omega) b hb h2 ny d]
        have hset2 : (setOf fun x => (decide ((x : Int) ∈ l.take i) || decide (a ≤ x ∧ x ≤ a)) || decide (b ≤ x ∧ x ≤ b)) = setOf fun x => decide ((x : Int) ∈ l.take (q + 1)) := by
          rw [← hset]
          refine setOf_congr fun x _ => ?_
          rw [Bool.or_assoc]
          congr 1
          rw [Bool.eq_iff_iff, Bool.or_eq_true, decide_eq_true_eq, decide_eq_true_eq, decide_eq_true_eq]
          omega
        rw [hset2]
        have := fin k (by omega)
        rw [List.length_append, ← Nat.add_assoc] at this
        rw [this, List.length_append, ← Nat.add_assoc]
      · rw [if_neg q2, List.append_nil] at h hrest fin ⊢
        have hq : q = i := by omega
        subst hq
        have hab : a = b := by rw [hae] at hbe; omega
        subst hab
        rw [cl_one kf hkf (k + 1) ot v19 v20 v22 Ke (by omega) a ha (y := y) (r := t ++ r) (by rw [h, List.append_assoc, hyr]) ny d, hset]
        exact fin (k + 1) (by omega)
theorem inc_list (p : Nat → Bool) : Inc (listOf p) := by
  have hpw : ((List.range 256).filter p).Pairwise (· < ·) := List.Pairwise.filter _ List.pairwise_lt_range
  unfold listOf
  generalize hL : (List.range 256).filter p = L at *
  have hmem : ∀ x ∈ L, x < 256 := fun x hx => by rw [← hL] at hx; exact List.mem_range.1 (List.mem_filter.1 hx).1
  have hg : ∀ j, j < L.length → (L.map fun b : Nat => (b : Int)).getD j 0 = ((L.getD j 0 : Nat) : Int) := fun j hj => by
    rw [List.getD_eq_getElem?_getD, List.getElem?_map, List.getElem?_eq_getElem hj, List.getD_eq_getElem?_getD, List.getElem?_eq_getElem hj]; rfl
  refine ⟨fun i hi => ?_, fun i j hij hj => ?_⟩
  · rw [List.length_map] at hi
    exact ⟨L.getD i 0, hmem _ (getD_mem L i hi 0), hg i hi⟩
  · rw [List.length_map] at hj
    rw [hg i (by omega), hg j hj]
    have := List.pairwise_iff_getElem.1 hpw i j (by omega) hj hij
    rw [List.getD_eq_getElem?_getD, List.getElem?_eq_getElem (by omega), List.getD_eq_getElem?_getD, List.getElem?_eq_getElem hj]
    simpa using this
theorem class_ok {R : Type} (kf : Nat) (hkf : 3000 ≤ kf) {T : List Int} {p : Nat} (hp : p ≤ 100000) (s : List Int) (hs : isSet s) {r : List Int} (h : T.drop p = 91 :: (runsT (listOf (mem s)) (listOf (mem s)).length 0 ++ 93 :: r)) (d : Int) (K : Int → List Int → List Int → Int → Int → Int → Bool → List Sd → Option R) :
    yy43 kf T (p : Int) d (-1) false K = yy23 s fun a b c => K a b T ((p + (91 :: (runsT (listOf (mem s)) (listOf (mem s)).length 0 ++ [93])).length : Nat) : Int) d (-1) false c := by
  have hll := listOf_length (mem s)
  have hinc := inc_list (mem s)
  have hset : (setOf fun b => decide ((b : Int) ∈ listOf (mem s))) = s := by rw [setOf_listOf, setOf_mem hs]
  generalize listOf (mem s) = l at *
  have hr := runsT_len l l.length 0
  have h1 : T.drop (p + 1) = runsT l l.length 0 ++ 93 :: r := drop_more (X := [91]) h
  obtain ⟨y, t, hy, n45, n94⟩ := runs_hd l l.length 0 (by omega)
  have h1' : T.drop (p + 1) = y :: (t ++ r) := by
    rw [h1, show (93 : Int) :: r = [93] ++ r from rfl, ← List.append_assoc, hy]; rfl
  unfold yy43 yy43_b
  rw [wi1s p (by omega), is_c h1']
  try dsimp only
  rw [decide_eq_false n94, cond_false]
  have hz : (List.replicate 4 (0 : Int)) = setOf fun b => decide ((b : Int) ∈ l.take 0) := by
    refine zero_setOf.trans ?_
    exact setOf_congr fun b _ => by simp
  have := cl_loop kf hkf false 0 ZS [] (fun (v80 : Bool) (v81 : List Int) (v82 : Int) (v83 : Int) (v84 : Int) (v85 : Bool) (v86 : Int) (v87 : List Int) (v88 : List Int) (v89 : List Sd) =>
       let j94 : List Int → Option R := fun v90 =>
       (yy23 v90 (fun (v91 : Int) (v92 : List Int) (v93 : List Sd) =>
         K v91 v92 v81 (IntKind.i64.wrap (v82 + 1)) v83 v84 v85 v93))
       (bif v80 then
        (yy16 kf v88 (fun (v95 : List Int) =>
          j94 v95))
        else (j94 v88))) hinc hll r d l.length kf 0 (p + 1) (by omega) (by omega) (by omega) (by omega) h1
  rw [← hz] at this
  refine this.trans ?_
  rw [hset]
  try dsimp only
  rw [cond_false, wi1s _ (by omega)]
  congr 1
  funext a b c
  congr 2
  simp only [List.length_cons, List.length_append, List.length_nil]
  omega
end Go.Ab.T

/- Shown and read again: sets; the law ShowSets. -/
namespace Go.Ab.T
open Go Go.Ab
set_option linter.unusedVariables false
set_option linter.unusedSimpArgs false
set_option maxRecDepth 20000
noncomputable def bytesT (s : List Int) : Sd := if s = ZS then noneT else Rose.node (3, s, ()) []
theorem bytesT_ok {R : Type} (s : List Int) (K : Int → List Int → List Sd → Option R) : yy23 s K = K (kd (bytesT s)) (stt (bytesT s)) (kk (bytesT s)) := by
  rw [bytes_ok]; unfold bytesT
  split <;> rfl
theorem setT_zero : setT ZS = [91, 93] := by
  have h : listOf (mem ZS) = [] := by
    have : ∀ b, mem ZS b = false := mem_zero
    unfold listOf
    rw [List.filter_eq_nil_iff.2 fun b _ => by rw [this b]; simp]; rfl
  unfold setT
  rw [h]; rfl
def noRep (r : List Int) : Prop := ∀ x t, r = x :: t → x ≠ 42 ∧ x ≠ 43 ∧ x ≠ 63
abbrev AK (R : Type) := Int → List Int → List Sd → List Int → Int → Int → Int → Bool → Option R
theorem atom_set {R : Type} (c : List Int → Int → Int → Int → Bool → AK R → Option R) (kf : Nat) (hkf : 4000 ≤ kf) {T : List Int} {p : Nat} (hp : p ≤ 100000) (s : List Int) (hs : isSet s) {r : List Int} (h : T.drop p = setT s ++ r) (d : Int) (K : AK R) :
    yy42 c kf T (p : Int) d (-1) false K = K (kd (bytesT s)) (stt (bytesT s)) (kk (bytesT s)) T ((p + (setT s).length : Nat) : Int) d (-1) false := by
  have hsl : setOf (fun b => decide ((b : Int) ∈ listOf (mem s))) = s := by rw [setOf_listOf, setOf_mem hs]
  unfold setT at h ⊢
  unfold yy42 yy42_b
  by_cases h1 : (listOf (mem s)).length = 256
  · rw [if_pos h1] at h ⊢
    have hall : setOf (fun b => decide (0 ≤ b ∧ b ≤ 255)) = s := by
      rw [← setOf_mem hs]
      refine setOf_congr fun b hb => ?_
      have hf : ((List.range 256).filter (mem s)).length = (List.range 256).length := by
        have : (listOf (mem s)).length = ((List.range 256).filter (mem s)).length := by unfold listOf; rw [List.length_map]
        rw [← this, h1, List.length_range]
      rw [List.length_filter_eq_length_iff.1 hf b (List.mem_range.2 hb), decide_eq_true (by omega)]
    rw [next_c (c := 46) (r := r) h]
    try dsimp only
    rw [cond_true, show decide ((46 : Int) = 91) = false from rfl, cond_false, show decide ((46 : Int) = 46) = true from rfl, cond_true, wi1s p (by omega)]
    have hr := rrange_s (R := R) kf (by omega) 0 255 (by omega) (by omega) fun v23 => yy23 v23 (fun v24 v25 v26 => K v24 v25 v26 T ((p + 1 : Nat) : Int) d (-1) false)
    refine hr.trans ?_
    rw [hall, bytesT_ok]; rfl
  rw [if_neg h1] at h ⊢
  by_cases h2 : (listOf (mem s)).length = 1
  · rw [if_pos h2] at h ⊢
    obtain ⟨c0, hc0⟩ : ∃ c0, listOf (mem s) = [c0] := List.length_eq_one_iff.1 h2
    have hb := listOf_isB (mem s) c0 (by rw [hc0]; simp)
    rw [hc0] at h hsl ⊢
    rw [show ([c0] : List Int).getD 0 0 = c0 from rfl] at h ⊢
    obtain ⟨x, t, hx, n45, n93, n94, n124, n41, n91, n46, n40, _⟩ := sign_hd c0
    rw [next_c (c := x) (r := t ++ r) (by rw [h, hx]; rfl)]
    try dsimp only
    rw [cond_true, decide_eq_false n91, cond_false, decide_eq_false n46, cond_false, Bool.not_true, cond_false, decide_eq_false n40, Bool.not_false, cond_true]
    rw [sgn_ok kf (by omega) false hb h (by omega)]
    try dsimp only
    rw [rof_s kf _ (by intro y hy; rw [List.mem_singleton.1 hy]; exact hb) (by simp) (by omega), hsl, bytesT_ok]
    rfl
  · rw [if_neg h2] at h ⊢
    have h' : T.drop p = 91 :: (runsT (listOf (mem s)) (listOf (mem s)).length 0 ++ 93 :: r) := by rw [h]; simp
    rw [next_c h']
    try dsimp only
    rw [cond_true, show decide ((91 : Int) = 91) = true from rfl, cond_true]
    rw [class_ok kf (by omega) hp s hs h', bytesT_ok]
theorem may_t {R : Type} (kf n : Nat) (hkf : 8000 + n ≤ kf) (t : Sd) (hf : Fit n t) (hp : plT t = true) (hn : nod t ≤ 400) (hd : dep t ≤ 30) (K : Int → Option R) : yy30 kf (kd t) (stt t) (kk t) K = K 0 := by
  unfold yy30 yy30_b
  rw [nodes_ok 400 (by omega) n t kf hf.1 (by omega) hn, decide_eq_false (by omega), cond_false, depth_ok 400 (by omega) n t kf hf.1 (by omega) hn, decide_eq_false (by omega), cond_false, rplain_ok n t kf hf (by omega) (by omega), hp]
  rfl
theorem made_t {R : Type} (kf n : Nat) (hkf : 8000 + n ≤ kf) (t : Sd) (hf : Fit n t) (hp : plT t = true) (hn : nod t ≤ 400) (hd : dep t ≤ 30) (T : List Int) (p d : Int) (K : AK R) :
    yy47 kf (kd t) (stt t) (kk t) T p d (-1) false K = K (kd t) (stt t) (kk t) T p d (-1) false := by
  unfold yy47 yy47_b
  dsimp only
  rw [over_f, Bool.not_false, cond_true, may_t kf n hkf t hf hp hn hd]
  rfl
end Go.Ab.T

/- Shown and read again: what is made is nice. -/
namespace Go.Ab.T
open Go Go.Ab
set_option linter.unusedVariables false
set_option linter.unusedSimpArgs false
set_option maxRecDepth 20000
mutual
def niceT : Sd → Prop
  | .node l ks => (l.1 = 6 → ∀ x ∈ ks, noE x) ∧ niceL ks
def niceL : List Sd → Prop
  | [] => True
  | x :: r => niceT x ∧ niceL r
end
theorem niceL_iff : ∀ {l : List Sd}, niceL l ↔ ∀ x ∈ l, niceT x
  | [] => by simp [niceL]
  | x :: r => by simp [niceL, niceL_iff (l := r)]
theorem niceT_iff {t : Sd} : niceT t ↔ (kd t = 6 → ∀ x ∈ kk t, noE x) ∧ ∀ x ∈ kk t, niceT x := by
  obtain ⟨l, ks⟩ := t
  show ((l.1 = 6 → ∀ x ∈ ks, noE x) ∧ niceL ks) ↔ _
  rw [niceL_iff]; rfl
theorem nice_leaf {t : Sd} (h : kk t = []) : niceT t := niceT_iff.2 ⟨(fun _ x hx => by rw [h] at hx; cases hx), (fun x hx => by rw [h] at hx; cases hx)⟩
theorem dep_oneOf {n : Nat} (hn : 1 ≤ n) {k : Int} {a : Sd} (ha : dep a = 1) {o : List Sd} (ho : ∀ x ∈ o, dep x ≤ n) : dep (oneOf k a o) ≤ n + 1 := by
  have key : ∀ l : List Sd, (∀ x ∈ l, dep x ≤ n) → depL l ≤ n := by
    intro l
    induction l with
    | nil => intro _; exact Nat.zero_le _
    | cons z q ih =>
      intro hz
      have h1 := hz z (by simp)
      have h2 := ih fun y hy => hz y (by simp [hy])
      show max (dep z) (depL q) ≤ n
      omega
  match o, ho with
  | [], _ => show dep a ≤ n + 1; omega
  | [x], ho => have := ho x (by simp); show dep x ≤ n + 1; omega
  | x :: y :: r, ho => have := key _ ho; show depL (x :: y :: r) + 1 ≤ n + 1; omega
theorem nice_oneOf {k : Int} (hk : k ≠ 6) {a : Sd} (ha : niceT a) {o : List Sd} (ho : ∀ x ∈ o, niceT x) : niceT (oneOf k a o) := by
  match o, ho with
  | [], _ => exact ha
  | [x], ho => exact ho x (by simp)
  | x :: y :: r, ho => exact niceT_iff.2 ⟨fun q => absurd q hk, ho⟩
theorem flat_all {P : Sd → Prop} {c : Int} {l : List Sd} (h : ∀ x ∈ l, P x) (hk : ∀ x, P x → ∀ y ∈ kk x, P y) : ∀ x ∈ flatT c l, P x := by
  intro x hx
  rcases flat_mem hx with ⟨q, _⟩ | ⟨y, hy, _, hxy⟩
  · exact h x q
  · exact hk y (h y hy) x hxy
def Nd (n : Nat) (t : Sd) : Prop := niceT t ∧ dep t ≤ n
theorem Nd.kid {n : Nat} {t x : Sd} (h : Nd n t) (hx : x ∈ kk t) : Nd n x := ⟨(niceT_iff.1 h.1).2 x hx, by have := dep_kid hx; have := h.2; omega⟩
theorem cat_nd {n : Nat} {l : List Sd} (hn : 1 ≤ n) (h : ∀ x ∈ l, Nd n x) : Nd (n + 1) (catT l) := by
  have hf := flat_all (c := 4) h fun x hx y hy => hx.kid hy
  unfold catT
  split
  · exact ⟨nice_leaf rfl, by show 1 ≤ n + 1; omega⟩
  · exact ⟨nice_oneOf (by decide) (nice_leaf rfl) fun x hx => (hf x (List.mem_filter.1 hx).1).1, dep_oneOf hn rfl fun x hx => (hf x (List.mem_filter.1 hx).1).2⟩
theorem alt_nd {n : Nat} {l : List Sd} (hn : 1 ≤ n) (hp : ∀ x ∈ l, plT x = true ∧ setsOk x) (h : ∀ x ∈ l, Nd n x) : Nd (n + 1) (altT l) := by
  have hf := flat_all (c := 5) h fun x hx y hy => hx.kid hy
  have hpf := flat_all (c := 5) hp fun x hx y hy => ⟨pl_kids hx.1 y hy, (setsOk_iff.1 hx.2).2 y hy⟩
  obtain ⟨b1, _, _⟩ := altR_bd (flatT 5 l) [] ZS hpf ZS_set
  have ho : ∀ x ∈ (if (altR (flatT 5 l) [] ZS).2 = ZS then (altR (flatT 5 l) [] ZS).1 else insT (altR (flatT 5 l) [] ZS).1 (Rose.node (3, (altR (flatT 5 l) [] ZS).2, ()) [])), Nd n x := by
    intro x hx
    split at hx
    · rcases b1 x hx with q | q
      · cases q
      · exact hf x q
    · rcases insT_mem hx with rfl | hx
      · exact ⟨nice_leaf rfl, hn⟩
      · rcases b1 x hx with q | q
        · cases q
        · exact hf x q
  exact ⟨nice_oneOf (by decide) (nice_leaf rfl) fun x hx => (ho x hx).1, dep_oneOf hn rfl fun x hx => (ho x hx).2⟩
theorem star1_nd {n : Nat} {t : Sd} (hn : 1 ≤ n) (h : Nd n t) (he : noE t) : Nd (n + 1) (star1 t) := by
  unfold star1
  split
  · exact ⟨h.1, by have := h.2; omega⟩
  split
  · exact ⟨nice_leaf rfl, by show 1 ≤ n + 1; omega⟩
  · refine ⟨niceT_iff.2 ⟨fun _ x hx => by rw [List.mem_singleton.1 hx]; exact he, fun x hx => by rw [List.mem_singleton.1 hx]; exact h.1⟩, ?_⟩
    show max (dep t) 0 + 1 ≤ n + 1
    have := h.2; omega
theorem star_nd {n : Nat} {t : Sd} (hn : 1 ≤ n) (hp : plT t = true) (hs : setsOk t) (hf : Fit 300 t) (h : Nd n t) : Nd (n + 1) (starT t) := by
  unfold starT
  split
  rotate_left
  · rename_i he
    exact star1_nd hn h fun h5 x hx q => he ⟨h5, List.any_eq_true.2 ⟨x, hx, decide_eq_true q⟩⟩
  rename_i he
  obtain ⟨h5, hany⟩ := he
  have hpk := pl_kids hp
  have hsk := (setsOk_iff.1 hs).2
  have hka := pl_alt hp h5
  have hm : ∀ x ∈ (kk t).filter (fun x => !decide (kd x = 2)), x ∈ kk t ∧ kd x ≠ 2 := fun x hx => by
    obtain ⟨a, b⟩ := List.mem_filter.1 hx
    exact ⟨a, by simpa using b⟩
  have h2n : 2 ≤ n := by
    obtain ⟨x, hx, _⟩ := List.any_eq_true.1 hany
    have := dep_kid hx; have := dep_pos x; have := h.2; omega
  obtain ⟨n, rfl⟩ : ∃ k, n = k + 1 := ⟨n - 1, by omega⟩
  have hnd : ∀ x ∈ (kk t).filter (fun x => !decide (kd x = 2)), Nd n x := fun x hx => ⟨(niceT_iff.1 h.1).2 x (hm x hx).1, by have := dep_kid (hm x hx).1; have := h.2; omega⟩
  have hpf : ∀ x ∈ (kk t).filter (fun x => !decide (kd x = 2)), plT x = true ∧ setsOk x := fun x hx => ⟨hpk x (hm x hx).1, hsk x (hm x hx).1⟩
  have hfk : ∀ x ∈ (kk t).filter (fun x => !decide (kd x = 2)), Fit 300 x := fun x hx => by
    have hx' := (hm x hx).1
    exact ⟨by have := dep_kid hx'; have := hf.1; omega, by have := nod_kid hx'; have := hf.2.1; omega, hsk x hx'⟩
  have ha := alt_nd (n := n) (by omega) hpf hnd
  obtain ⟨_, g2⟩ := alt_good (n := 300) hpf hfk
  refine star1_nd (by omega) ha fun hk x hx => ?_
  rcases g2 hk x hx with q | q
  · rcases flat_mem q with ⟨q1, _⟩ | ⟨y, hy, hyk, _⟩
    · exact (hm x q1).2
    · exact absurd hyk (hka y (hm y hy).1).1
  · omega
theorem bytesQ (Q : Nat → Sd → Prop) (q1 : ∀ m, Q m noneT) (q3 : ∀ m s, s ≠ ZS → Q m (Rose.node (3, s, ()) [])) {s : List Int} (hs : isSet s) (hr : runsN s ≤ 3) : ∃ t : Sd, Gd 1 29 t ∧ (∀ m, Q m t) ∧ ∀ {R : Type} (K : Int → List Int → List Sd → Option R), yy23 s K = K (kd t) (stt t) (kk t) := by
  by_cases h : s = ZS
  · exact ⟨noneT, Gd.none _ _ (by omega) (by omega), q1, fun K => by rw [bytes_ok, if_pos h]; rfl⟩
  · refine ⟨Rose.node (3, s, ()) [], ⟨pl_set h, ⟨hs, trivial⟩, Nat.le_refl _, ?_⟩, fun m => q3 m s h, fun K => by rw [bytes_ok, if_neg h]; rfl⟩
    show 2 + 9 * runsN s ≤ 29
    omega
theorem prxQ {R : Type} (Q : Nat → Sd → Prop) (q1 : ∀ m, Q m noneT) (q2 : ∀ m, Q m emptyT) (q3 : ∀ m s, s ≠ ZS → Q m (Rose.node (3, s, ()) []))
    (qc : ∀ m x y, plT x = true ∧ setsOk x → plT y = true ∧ setsOk y → Q m x → Q m y → Q (m + 1) (catT [x, y])) (qa : ∀ m x y, plT x = true ∧ setsOk x → plT y = true ∧ setsOk y → Fit 300 x → Fit 300 y → Q m x → Q m y → Q (m + 1) (altT [x, y])) (qs : ∀ m x, plT x = true ∧ setsOk x → Fit 300 x → Q m x → Q (m + 1) (starT x)) (l : List Int) (hl : ∀ x ∈ l, 0 ≤ x ∧ x ≤ 255) (hll : l.length ≤ 100) : ∀ (m d kf p : Nat), d + m = 9 → 4000 + m ≤ kf → p ≤ l.length →
    ∃ (t : Sd) (p' : Nat), p ≤ p' ∧ p' ≤ l.length ∧ Gd (2 * (p' - p) + 1) (35 * (p' - p) + 29) t ∧ Q m t ∧ ∀ K : Int → List Int → List Sd → List Int → Int → Option R, yy13 kf (d : Int) l (p : Int) K = K (kd t) (stt t) (kk t) l (p' : Int)
  | m, d, 0, p, _, h, _ => by omega
  | 0, d, kf + 1, p, hd, hk, hp => by
    obtain ⟨v, p1, hv, a1, a2, a3, a4, hK⟩ := pnum (R := R) 9 (by omega) l hl (by omega) p hp
    obtain ⟨s, p2, s1, s2, s3, s4, hS⟩ := pset (R := R) kf (by omega) l hl (by omega) p1 a2
    obtain ⟨t, g1, gq, g2⟩ := bytesQ Q q1 q3 s1 s2
    obtain ⟨u, p3, hu, c1, c2, _, _, hK3⟩ := pnum (R := R) 3 (by omega) l hl (by omega) p1 a2
    by_cases hz : l.length ≤ p1 ∨ 0 < v
    · refine ⟨t, p2, by omega, s4, g1.mono (by omega) (by omega), gq _, fun K => ?_⟩
      unfold yy13 yy13_b yy12 yy12_b
      rw [show (9 : Int) = ((9 : Nat) : Int) from rfl, hK]
      have hd8 : decide ((8 : Int) < (d : Int)) = true := decide_eq_true (by omega)
      dsimp only
      rw [hd8]
      by_cases h1 : l.length ≤ p1
      · rw [decide_eq_true (show (l.length : Int) ≤ (p1 : Int) by omega)]
        simp only [cond_true]
        rw [hS, g2]
      · rw [decide_eq_false (show ¬ (l.length : Int) ≤ (p1 : Int) by omega), decide_eq_true (show (0 : Int) < (v : Int) by omega)]
        simp only [cond_true, cond_false]
        rw [hS, g2]
    · have hz1 : ¬ l.length ≤ p1 := fun q => hz (Or.inl q)
      have hz2 : ¬ 0 < v := fun q => hz (Or.inr q)
      by_cases hu0 : u = 0
      · refine ⟨noneT, p3, by omega, c2, (Gd.none 1 29 (by omega) (by omega)).mono (by omega) (by omega), q1 _, fun K => ?_⟩
        unfold yy13 yy13_b yy12 yy12_b
        rw [show (9 : Int) = ((9 : Nat) : Int) from rfl, hK]
        have hd8 : decide ((8 : Int) < (d : Int)) = true := decide_eq_true (by omega)
        dsimp only
        rw [hd8, decide_eq_false (show ¬ (l.length : Int) ≤ (p1 : Int) by omega), decide_eq_false (show ¬ (0 : Int) < (v : Int) by omega)]
        simp only [cond_true, cond_false]
        rw [show (3 : Int) = ((3 : Nat) : Int) from rfl, hK3, decide_eq_true (show (u : Int) = 0 by omega)]; rfl
      · refine ⟨emptyT, p3, by omega, c2, (Gd.empty 1 29 (by omega) (by omega)).mono (by omega) (by omega), q2 _, fun K => ?_⟩
        unfold yy13 yy13_b yy12 yy12_b
        rw [show (9 : Int) = ((9 : Nat) : Int) from rfl, hK]
        have hd8 : decide ((8 : Int) < (d : Int)) = true := decide_eq_true (by omega)
        dsimp only
        rw [hd8, decide_eq_false (show ¬ (l.length : Int) ≤ (p1 : Int) by omega), decide_eq_false (show ¬ (0 : Int) < (v : Int) by omega)]
        simp only [cond_true, cond_false]
        rw [show (3 : Int) = ((3 : Nat) : Int) from rfl, hK3, decide_eq_false (show ¬ (u : Int) = 0 by omega)]; rfl
  | m + 1, d, kf + 1, p, hd, hk, hp => by
    obtain ⟨v, p1, hv, a1, a2, a3, a4, hK⟩ := pnum (R := R) 9 (by omega) l hl (by omega) p hp
    obtain ⟨s, p2, s1, s2, s3, s4, hS⟩ := pset (R := R) kf (by omega) l hl (by omega) p1 a2
    obtain ⟨t, g1, gq, g2⟩ := bytesQ Q q1 q3 s1 s2
    obtain ⟨u, p3, hu, c1, c2, _, _, hK3⟩ := pnum (R := R) 3 (by omega) l hl (by omega) p1 a2
    by_cases hleaf : l.length ≤ p1 ∨ v < 3
    · -- a leaf
      by_cases hz : l.length ≤ p1 ∨ 0 < v
      · refine ⟨t, p2, by omega, s4, g1.mono (by omega) (by omega), gq _, fun K => ?_⟩
        unfold yy13 yy13_b yy12 yy12_b
        rw [show (9 : Int) = ((9 : Nat) : Int) from rfl, hK]
        dsimp only
        rw [show decide ((8 : Int) < (d : Int)) = false from decide_eq_false (by omega)]
        by_cases h1 : l.length ≤ p1
        · rw [decide_eq_true (show (l.length : Int) ≤ (p1 : Int) by omega)]
          simp only [cond_true]
          rw [hS, g2]
        · rw [decide_eq_false (show ¬ (l.length : Int) ≤ (p1 : Int) by omega), decide_eq_true (show (0 : Int) < (v : Int) by omega), decide_eq_true (show (v : Int) < 3 by omega)]
          simp only [cond_true, cond_false]
          rw [hS, g2]
      · have hz1 : ¬ l.length ≤ p1 := fun q => hz (Or.inl q)
        have hz2 : ¬ 0 < v := fun q => hz (Or.inr q)
        by_cases hu0 : u = 0
        · refine ⟨noneT, p3, by omega, c2, (Gd.none 1 29 (by omega) (by omega)).mono (by omega) (by omega), q1 _, fun K => ?_⟩
          unfold yy13 yy13_b yy12 yy12_b
          rw [show (9 : Int) = ((9 : Nat) : Int) from rfl, hK]
          dsimp only
          rw [show decide ((8 : Int) < (d : Int)) = false from decide_eq_false (by omega), decide_eq_false (show ¬ (l.length : Int) ≤ (p1 : Int) by omega), decide_eq_false (show ¬ (0 : Int) < (v : Int) by omega), decide_eq_true (show (v : Int) < 3 by omega)]
          simp only [cond_true, cond_false]
          rw [show (3 : Int) = ((3 : Nat) : Int) from rfl, hK3, decide_eq_true (show (u : Int) = 0 by omega)]; rfl
        · refine ⟨emptyT, p3, by omega, c2, (Gd.empty 1 29 (by omega) (by omega)).mono (by omega) (by omega), q2 _, fun K => ?_⟩
          unfold yy13 yy13_b yy12 yy12_b
          rw [show (9 : Int) = ((9 : Nat) : Int) from rfl, hK]
          dsimp only
          rw [show decide ((8 : Int) < (d : Int)) = false from decide_eq_false (by omega), decide_eq_false (show ¬ (l.length : Int) ≤ (p1 : Int) by omega), decide_eq_false (show ¬ (0 : Int) < (v : Int) by omega), decide_eq_true (show (v : Int) < 3 by omega)]
          simp only [cond_true, cond_false]
          rw [show (3 : Int) = ((3 : Nat) : Int) from rfl, hK3, decide_eq_false (show ¬ (u : Int) = 0 by omega)]; rfl
    · have hl1 : p1 < l.length := Nat.lt_of_not_le fun q => hleaf (Or.inl q)
      have hv3 : 3 ≤ v := Nat.le_of_not_lt fun q => hleaf (Or.inr q)
      have hp1 : p1 = p + 1 := a3 (by omega)
      obtain ⟨x, u1, x1, x2, gx, Qx, hX⟩ := prxQ (R := R) Q q1 q2 q3 qc qa qs l hl hll m (d + 1) kf p1 (by omega) (by omega) a2
      have hfx : Fit 300 x := (gx.mono (n' := 300) (w' := 35 * (u1 - p1) + 29) (by omega) (Nat.le_refl _)).fit (by omega)
      have hw : IntKind.i64.wrap ((d : Int) + 1) = ((d + 1 : Nat) : Int) := wi1s d (by omega)
      have hd8 : decide ((8 : Int) < (d : Int)) = false := decide_eq_false (by omega)
      have ho : decide ((l.length : Int) ≤ (p1 : Int)) = false := decide_eq_false (by omega)
      have hv3' : decide ((v : Int) < 3) = false := decide_eq_false (by omega)
      by_cases h8 : v = 8
      · subst h8
        obtain ⟨kf, rfl⟩ : ∃ k', kf = k' + 2 := ⟨kf - 2, by omega⟩
        refine ⟨starT x, u1, by omega, x2, (star_good gx hfx (by omega) (by omega)).mono (by omega) (by omega), qs _ _ ⟨gx.pl, gx.sk⟩ hfx Qx, fun K => ?_⟩
        unfold yy13 yy13_b yy12 yy12_b
        rw [show (9 : Int) = ((9 : Nat) : Int) from rfl, hK]
        dsimp only
        rw [ho, hd8, hv3', hw]
        simp only [cond_false]
        rw [hX]
        rw [show decide (((8 : Nat) : Int) = 3) = false from rfl, show decide (((8 : Nat) : Int) = 4) = false from rfl, show decide (((8 : Nat) : Int) = 5) = false from rfl, show decide (((8 : Nat) : Int) = 6) = false from rfl, show decide (((8 : Nat) : Int) = 7) = false from rfl]
        simp only [cond_false]
        rw [star_ok kf 300 (by omega) x hfx gx.pl (by have := gx.nd; omega)]
      obtain ⟨y, u2, y1, y2, gy, Qy, hY⟩ := prxQ (R := R) Q q1 q2 q3 qc qa qs l hl hll m (d + 1) kf u1 (by omega) (by omega) x2
      have hfy : Fit 300 y := (gy.mono (n' := 300) (w' := 35 * (u2 - u1) + 29) (by omega) (Nat.le_refl _)).fit (by omega)
      have hm : ∀ z ∈ [x, y], plT z = true ∧ setsOk z := fun z hz => by
        simp only [List.mem_cons, List.not_mem_nil, or_false] at hz
        rcases hz with rfl | rfl
        · exact ⟨gx.pl, gx.sk⟩
        · exact ⟨gy.pl, gy.sk⟩
      have hfm : ∀ z ∈ [x, y], Fit 300 z := fun z hz => by
        simp only [List.mem_cons, List.not_mem_nil, or_false] at hz
        rcases hz with rfl | rfl
        · exact hfx
        · exact hfy
      have n1 := gx.nd; have n2 := gy.nd; have w1 := gx.wt; have w2 := gy.wt
      have hnl : nodL [x, y] = nod x + (nod y + 0) := rfl
      have hwl : wtL [x, y] = (wtT x + 2) + ((wtT y + 2) + 0) := rfl
      by_cases hcat : v = 3 ∨ v = 4 ∨ v = 5
      · refine ⟨catT [x, y], u2, by omega, y2, (cat_good hm).mono (by omega) (by omega), qc _ _ _ ⟨gx.pl, gx.sk⟩ ⟨gy.pl, gy.sk⟩ Qx Qy, fun K => ?_⟩
        unfold yy13 yy13_b yy12 yy12_b
        rw [show (9 : Int) = ((9 : Nat) : Int) from rfl, hK]
        dsimp only
        rw [ho, hd8, hv3', hw]
        simp only [cond_false]
        rw [hX]
        have fin : yy13 kf ((d + 1 : Nat) : Int) l (u1 : Int) (fun v38 v39 v40 v41 v42 => yy24 kf [Rose.node (kd x, stt x, ()) (kk x), Rose.node (v38, v39, ()) v40] fun v43 v44 v45 => K v43 v44 v45 v41 v42) = K (kd (catT [x, y])) (stt (catT [x, y])) (kk (catT [x, y])) l (u2 : Int) := by
          rw [hY, eta, eta, cat_ok kf 300 (by omega) [x, y] (by omega) hfm]
        rcases hcat with rfl | rfl | rfl <;> exact fin
      · have h67 : v = 6 ∨ v = 7 := by omega
        refine ⟨altT [x, y], u2, by omega, y2, (alt_good hm hfm).1.mono (by omega) (by omega), qa _ _ _ ⟨gx.pl, gx.sk⟩ ⟨gy.pl, gy.sk⟩ hfx hfy Qx Qy, fun K => ?_⟩
        unfold yy13 yy13_b yy12 yy12_b
        rw [show (9 : Int) = ((9 : Nat) : Int) from rfl, hK]
        dsimp only
        rw [ho, hd8, hv3', hw]
        simp only [cond_false]
        rw [hX]
        have fin : yy13 kf ((d + 1 : Nat) : Int) l (u1 : Int) (fun v47 v48 v49 v50 v51 => yy22 kf [Rose.node (kd x, stt x, ()) (kk x), Rose.node (v47, v48, ()) v49] fun v52 v53 v54 => K v52 v53 v54 v50 v51) = K (kd (altT [x, y])) (stt (altT [x, y])) (kk (altT [x, y])) l (u2 : Int) := by
          rw [hY, eta, eta, alt_ok kf 300 (by omega) [x, y] (by omega) hfm]
        rcases h67 with rfl | rfl <;> exact fin
theorem made_nice {R : Type} (kf : Nat) (hkf : 8000 ≤ kf) (l : List Int) (hl : ∀ x ∈ l, 0 ≤ x ∧ x ≤ 255) (hll : l.length ≤ 100) :
    ∃ (t : Sd) (p' : Nat), Gd 201 3529 t ∧ Nd 10 t ∧ ∀ K : Int → List Int → List Sd → List Int → Int → Option R, yy8 l (fun a b => yy9 kf a b K) = K (kd t) (stt t) (kk t) l (p' : Int) := by
  obtain ⟨t, p', _, h2, g, q, hK⟩ := prxQ (R := R) (fun m t => Nd (m + 1) t) (fun m => ⟨nice_leaf rfl, by show 1 ≤ m + 1; omega⟩) (fun m => ⟨nice_leaf rfl, by show 1 ≤ m + 1; omega⟩) (fun m s _ => ⟨nice_leaf rfl, by show 1 ≤ m + 1; omega⟩)
    (fun m x y hx hy qx qy => cat_nd (by omega) fun z hz => by
      simp only [List.mem_cons, List.not_mem_nil, or_false] at hz
      rcases hz with rfl | rfl
      · exact qx
      · exact qy)
    (fun m x y hx hy _ _ qx qy => alt_nd (by omega) (fun z hz => by
      simp only [List.mem_cons, List.not_mem_nil, or_false] at hz
      rcases hz with rfl | rfl
      · exact hx
      · exact hy) fun z hz => by
      simp only [List.mem_cons, List.not_mem_nil, or_false] at hz
      rcases hz with rfl | rfl
      · exact qx
      · exact qy)
    (fun m x hx hf qx => star_nd (by omega) hx.1 hx.2 hf qx) l hl hll 9 0 kf 0 (by omega) (by omega) (by omega)
  refine ⟨t, p', g.mono (by omega) (by omega), q, fun K => ?_⟩
  unfold yy8 yy8_b yy9 yy9_b
  exact hK _
end Go.Ab.T

/- Shown and read again: heads of texts, atoms, what is repeated. -/
namespace Go.Ab.T
open Go Go.Ab
set_option linter.unusedVariables false
set_option linter.unusedSimpArgs false
set_option maxRecDepth 20000
structure Nc (n : Nat) (t : Sd) : Prop where
  pl : plT t = true
  sk : setsOk t
  nc : niceT t
  nd : nod t ≤ 400
  dp : dep t ≤ n
theorem Nc.kid {n : Nat} {t x : Sd} (h : Nc (n + 1) t) (hx : x ∈ kk t) : Nc n x :=
  ⟨pl_kids h.pl x hx, (setsOk_iff.1 h.sk).2 x hx, (niceT_iff.1 h.nc).2 x hx, by have := nod_kid hx; have := h.nd; omega, by have := dep_kid hx; have := h.dp; omega⟩
theorem Nc.mono {n m : Nat} {t : Sd} (h : Nc n t) (hm : n ≤ m) : Nc m t := ⟨h.pl, h.sk, h.nc, h.nd, Nat.le_trans h.dp hm⟩
theorem Nc.fit {n : Nat} {t : Sd} (h : Nc n t) : Fit n t := ⟨h.dp, by have := h.nd; omega, h.sk⟩
theorem Nc.set {n : Nat} {t : Sd} (h : Nc n t) : isSet (stt t) := (setsOk_iff.1 h.sk).1
def okH (x : Int) : Prop := x ≠ 124 ∧ x ≠ 41 ∧ x ≠ 42 ∧ x ≠ 43 ∧ x ≠ 63
noncomputable def prT (t : Sd) : List Int := if kd t = 5 then [40] ++ (textT t ++ [41]) else textT t
theorem catX_cons (x : Sd) (r : List Sd) : catX (x :: r) = prT x ++ catX r := by
  show (if kd x = 5 then [40] ++ (textT x ++ [41]) else textT x) ++ catX r = _
  rfl
theorem setT_hd (s : List Int) : ∃ x u, setT s = x :: u ∧ okH x := by
  unfold setT
  split
  · exact ⟨46, [], rfl, by unfold okH; decide⟩
  split
  · obtain ⟨x, t, hx, _, _, _, a, b, _, _, _, c, d, e⟩ := sign_hd ((listOf (mem s)).getD 0 0)
    exact ⟨x, t, hx, a, b, c, d, e⟩
  · exact ⟨91, _, rfl, by unfold okH; decide⟩
theorem kinds {t : Sd} (h : plT t = true) : kd t = 1 ∨ kd t = 2 ∨ kd t = 3 ∨ kd t = 4 ∨ kd t = 5 ∨ kd t = 6 := by
  have hf := pl_form h
  apply Classical.byContradiction
  intro q
  unfold formB at hf
  rw [if_neg (by omega), if_neg (by omega), if_neg (by omega), if_neg (by omega), if_neg (by omega)] at hf
  cases hf
theorem text6 {t x : Sd} (hk : kd t = 6) (hx : kk t = [x]) : textT t = (if kd x = 4 ∨ kd x = 5 then [40] ++ (textT x ++ [41]) else textT x) ++ [42] := by
  rw [textT_eq, if_neg (by omega), if_neg (by omega), if_neg (by omega), if_pos hk, hx]; rfl
theorem text4 {t : Sd} (hk : kd t = 4) : textT t = catX (kk t) := by
  rw [textT_eq, if_neg (by omega), if_neg (by omega), if_neg (by omega), if_neg (by omega), if_pos hk]
theorem text5 {t : Sd} (hk : kd t = 5) : textT t = altX true (kk t) := by
  rw [textT_eq, if_neg (by omega), if_neg (by omega), if_neg (by omega), if_neg (by omega), if_neg (by omega)]
theorem text3 {t : Sd} (hk : kd t = 3) : textT t = setT (stt t) := by
  rw [textT_eq, if_neg (by omega), if_neg (by omega), if_pos hk]
theorem tree1 {t : Sd} (h : plT t = true) (hk : kd t = 1) : t = noneT := by
  have hf := pl_form h
  rw [hk] at hf
  obtain ⟨a, b⟩ := form1.1 hf
  have := eta t
  rw [hk, a, List.length_eq_zero_iff.1 b] at this
  exact this.symm
theorem tree2 {t : Sd} (h : plT t = true) (hk : kd t = 2) : t = emptyT := by
  have hf := pl_form h
  rw [hk] at hf
  obtain ⟨a, b⟩ := form2.1 hf
  have := eta t
  rw [hk, a, List.length_eq_zero_iff.1 b] at this
  exact this.symm
theorem tree3 {t : Sd} (h : plT t = true) (hk : kd t = 3) : bytesT (stt t) = t := by
  have hf := pl_form h
  rw [hk] at hf
  obtain ⟨a, b⟩ := form3.1 hf
  unfold bytesT
  rw [if_neg a]
  have := eta t
  rw [hk, List.length_eq_zero_iff.1 b] at this
  exact this
theorem kid6 {t : Sd} (h : plT t = true) (hk : kd t = 6) : ∃ x, kk t = [x] ∧ stt t = ZS ∧ kd x ≠ 6 ∧ kd x ≠ 1 ∧ kd x ≠ 2 := by
  have hf := pl_form h
  rw [hk] at hf
  obtain ⟨a, b, c⟩ := form6.1 hf
  obtain ⟨x, hx⟩ := List.length_eq_one_iff.1 b
  have := badL_iff.1 c x (by rw [hx]; simp)
  simp at this
  exact ⟨x, hx, a, by omega, by omega, by omega⟩
theorem pr_hd : ∀ (n : Nat) (t : Sd), dep t ≤ n → plT t = true → ∃ x u, prT t = x :: u ∧ okH x
  | 0, t, h, _ => by have := dep_pos t; omega
  | n + 1, t, hd, hp => by
    unfold prT
    by_cases h5 : kd t = 5
    · rw [if_pos h5]; exact ⟨40, _, rfl, by unfold okH; decide⟩
    rw [if_neg h5]
    rcases kinds hp with h | h | h | h | h | h
    · rw [textT_eq, if_pos h]; exact ⟨91, _, rfl, by unfold okH; decide⟩
    · rw [textT_eq, if_neg (by omega), if_pos h]; exact ⟨40, _, rfl, by unfold okH; decide⟩
    · rw [text3 h]; exact setT_hd _
    · rw [text4 h]
      have hf := pl_form hp
      rw [h] at hf
      have hl := (form4.1 hf).2.1
      match hk : kk t, hl with
      | x :: r, _ =>
        have hx : x ∈ kk t := by rw [hk]; simp
        obtain ⟨y, u, hy, ho⟩ := pr_hd n x (by have := dep_kid hx; omega) (pl_kids hp x hx)
        rw [catX_cons, hy]
        exact ⟨y, _, rfl, ho⟩
    · exact absurd h h5
    · obtain ⟨x, hx, _, _⟩ := kid6 hp h
      have hm : x ∈ kk t := by rw [hx]; simp
      rw [text6 h hx]
      by_cases hc : kd x = 4 ∨ kd x = 5
      · rw [if_pos hc]; exact ⟨40, _, rfl, by unfold okH; decide⟩
      · rw [if_neg hc]
        obtain ⟨y, u, hy, ho⟩ := pr_hd n x (by have := dep_kid hm; omega) (pl_kids hp x hm)
        unfold prT at hy
        rw [if_neg (fun q => hc (Or.inr q))] at hy
        rw [hy]
        exact ⟨y, _, rfl, ho⟩
def Reads {R : Type} (f : List Int → Int → Int → Int → Bool → AK R → Option R) (X : List Int) (t : Sd) (ok : List Int → Prop) (d : Nat) : Prop :=
  ∀ (T : List Int) (p : Nat) (r : List Int) (K : AK R), T.length ≤ 90000 → p ≤ T.length → T.drop p = X ++ r → ok r → f T (p : Int) (d : Int) (-1) false K = K (kd t) (stt t) (kk t) T ((p + X.length : Nat) : Int) (d : Int) (-1) false
def endA (r : List Int) : Prop := ∀ x u, r = x :: u → x = 41
def endC (r : List Int) : Prop := ∀ x u, r = x :: u → x = 41 ∨ x = 124
theorem drop_len {T X r : List Int} {p : Nat} (hp : p ≤ T.length) (h : T.drop p = X ++ r) : p + X.length ≤ T.length := by
  have := congrArg List.length h
  rw [List.length_drop, List.length_append] at this
  omega
theorem wi1m (d : Nat) (h : d < 4000000000000000000) : IntKind.i64.wrap (((d + 1 : Nat) : Int) - 1) = (d : Int) := by rw [IntKind.wrap_i64]; omega
theorem atom_par {R : Type} (c : List Int → Int → Int → Int → Bool → AK R → Option R) (kf : Nat) (X : List Int) (t : Sd) (d : Nat) (hd : d + 1 ≤ 30) (hc : Reads c X t endA (d + 1)) : Reads (yy42 c kf) ([40] ++ (X ++ [41])) t (fun _ => True) d := by
  intro T p r K hT hp h _
  have h0 : T.drop p = 40 :: (X ++ 41 :: r) := by rw [h]; simp
  have hl := drop_len hp h
  have h1 : T.drop (p + 1) = X ++ 41 :: r := drop_more (X := [40]) h0
  have h2 : T.drop (p + 1 + X.length) = 41 :: r := drop_more h1
  rw [List.length_append, List.length_append] at hl
  have hl' : p + (1 + (X.length + 1)) ≤ T.length := hl
  unfold yy42 yy42_b
  rw [next_c h0]
  try dsimp only
  rw [cond_true, show decide ((40 : Int) = 91) = false from rfl, cond_false, show decide ((40 : Int) = 46) = false from rfl, cond_false, Bool.not_true, cond_false, show (!decide ((40 : Int) = 40)) = false from rfl, cond_false]
  rw [wi1s d (by omega), decide_eq_false (by omega : ¬ (30 : Int) < ((d + 1 : Nat) : Int)), cond_false, cond_false, over_f, cond_false, wi1s p (by omega)]
  rw [hc T (p + 1) (41 :: r) _ hT (by omega) h1 (fun x u q => by injection q with a _; exact a.symm)]
  try dsimp only
  rw [is_c h2]
  try dsimp only
  rw [show (!decide ((41 : Int) = 41)) = false from rfl, cond_false, wi1s (p + 1 + X.length) (by omega), wi1m d (by omega)]
  rw [show p + ([40] ++ (X ++ [41]) : List Int).length = p + 1 + X.length + 1 by rw [List.length_append, List.length_append]; show p + (1 + (X.length + 1)) = _; omega]
  rfl
theorem rep_one {R : Type} (c : List Int → Int → Int → Int → Bool → AK R → Option R) (kf : Nat) (hkf : 1 ≤ kf) {X : List Int} {t : Sd} {d : Nat} (ha : Reads (yy42 c kf) X t (fun _ => True) d) : Reads (yy50 c kf) X t noRep d := by
  intro T p r K hT hp h hr
  obtain ⟨k, rfl⟩ : ∃ k, kf = k + 1 := ⟨kf - 1, by omega⟩
  have h2 := drop_more h
  unfold yy50 yy50_b
  rw [ha T p r _ hT hp h trivial]
  try dsimp only
  rw [yy50_l2]
  unfold yy50_l2_b
  dsimp only
  rw [over_f, Bool.not_false, cond_true]
  cases r with
  | nil =>
    rw [is_end h2]
    try dsimp only
    rw [cond_false, is_end h2]
    try dsimp only
    rw [cond_false, is_end h2]
    rfl
  | cons x t =>
    obtain ⟨n1, n2, n3⟩ := hr x t rfl
    rw [is_c h2]
    try dsimp only
    rw [decide_eq_false n1, cond_false, is_c h2]
    try dsimp only
    rw [decide_eq_false n2, cond_false, is_c h2]
    try dsimp only
    rw [decide_eq_false n3, cond_false]
theorem rep_star {R : Type} (c : List Int → Int → Int → Int → Bool → AK R → Option R) (kf n : Nat) (hkf : 9000 + n ≤ kf) {X : List Int} {t : Sd} {d : Nat} (ha : Reads (yy42 c kf) X t (fun _ => True) d)
    (hf : Fit n t) (hn : noE t) (u : Sd) (hu : star1 t = u) (hfu : Fit n u) (hpu : plT u = true) (hnu : nod u ≤ 400) (hdu : dep u ≤ 30) : Reads (yy50 c kf) (X ++ [42]) u noRep d := by
  intro T p r K hT hp h hr
  obtain ⟨k, rfl⟩ : ∃ k, kf = k + 2 := ⟨kf - 2, by omega⟩
  have h1 : T.drop p = X ++ 42 :: r := by rw [h]; simp
  have h2 := drop_more h1
  have h3 : T.drop (p + X.length + 1) = r := drop_more (X := [42]) h2
  have hl := drop_len hp h1
  unfold yy50 yy50_b
  rw [ha T p (42 :: r) _ hT hp h1 trivial]
  try dsimp only
  rw [yy50_l2]
  unfold yy50_l2_b
  dsimp only
  rw [over_f, Bool.not_false, cond_true, is_c h2]
  try dsimp only
  rw [show decide ((42 : Int) = 42) = true from rfl, cond_true, next_c h2]
  try dsimp only
  rw [show decide ((42 : Int) = 42) = true from rfl, cond_true, star1_ok (k + 1) n (by omega) t hf hn, hu]
  try dsimp only
  rw [wi1s (p + X.length) (by omega), made_t (k + 2) n (by omega) u hfu hpu hnu hdu]
  try dsimp only
  rw [yy50_l2]
  unfold yy50_l2_b
  dsimp only
  rw [over_f, Bool.not_false, cond_true]
  rw [show p + (X ++ [42] : List Int).length = p + X.length + 1 by rw [List.length_append]; rfl]
  cases r with
  | nil =>
    rw [is_end h3]
    try dsimp only
    rw [cond_false, is_end h3]
    try dsimp only
    rw [cond_false, is_end h3]
    rfl
  | cons x t =>
    obtain ⟨n1, n2, n3⟩ := hr x t rfl
    rw [is_c h3]
    try dsimp only
    rw [decide_eq_false n1, cond_false, is_c h3]
    try dsimp only
    rw [decide_eq_false n2, cond_false, is_c h3]
    try dsimp only
    rw [decide_eq_false n3, cond_false]
theorem rep_set2 {R : Type} (c : List Int → Int → Int → Int → Bool → AK R → Option R) (kf : Nat) (hkf : 4000 ≤ kf) (s : List Int) (hs : isSet s) (d : Nat) : Reads (yy42 c kf) (setT s) (bytesT s) (fun _ => True) d :=
  fun T p r K hT hp h _ => atom_set c kf hkf (by omega) s hs h d K
theorem rep_t {R : Type} (c : List Int → Int → Int → Int → Bool → AK R → Option R) (kf n d : Nat) (hkf : 9040 ≤ kf) (hn : n + 1 ≤ 30) (hd : d + 1 ≤ 30) (hc : ∀ x, Nc n x → Reads c (textT x) x endA (d + 1)) (he : Reads c [] emptyT endA (d + 1))
    (t : Sd) (h : Nc (n + 1) t) (h5 : kd t = 5 → Nc n t) (h4 : kd t ≠ 4) : Reads (yy50 c kf) (prT t) t noRep d := by
  unfold prT
  rcases kinds h.pl with k | k | k | k | k | k
  · rw [if_neg (by omega), tree1 h.pl k]
    have := rep_one c kf (by omega) (rep_set2 c kf (by omega) ZS ZS_set d)
    rw [setT_zero, show bytesT ZS = noneT from if_pos rfl] at this
    exact this
  · rw [if_neg (by omega), tree2 h.pl k]
    exact rep_one c kf (by omega) (atom_par c kf [] emptyT d hd he)
  · rw [if_neg (by omega), text3 k]
    have := rep_one c kf (by omega) (rep_set2 c kf (by omega) (stt t) h.set d)
    rw [tree3 h.pl k] at this
    exact this
  · exact absurd k h4
  · rw [if_pos k]
    exact rep_one c kf (by omega) (atom_par c kf (textT t) t d hd (hc t (h5 k)))
  · rw [if_neg (by omega)]
    obtain ⟨x, hx, hz, x6, x1, x2⟩ := kid6 h.pl k
    have hm : x ∈ kk t := by rw [hx]; simp
    have hxn := h.kid hm
    have hno : noE x := (niceT_iff.1 h.nc).1 k x hm
    have hst : star1 x = t := by
      unfold star1
      rw [if_neg x6, if_neg (by omega)]
      have := eta t
      rw [k, hz, hx] at this
      exact this
    rw [text6 k hx]
    refine rep_star c kf (n + 1) (by omega) (t := x) ?_ (hxn.mono (by omega)).fit hno t hst h.fit h.pl h.nd (by have := h.dp; omega)
    by_cases hb : kd x = 4 ∨ kd x = 5
    · rw [if_pos hb]
      exact atom_par c kf (textT x) x d hd (hc x hxn)
    · rw [if_neg hb]
      rcases kinds hxn.pl with q | q | q | q | q | q
      · exact absurd q x1
      · exact absurd q x2
      · rw [text3 q]
        have := rep_set2 c kf (by omega) (stt x) hxn.set d
        rw [tree3 hxn.pl q] at this
        exact this
      · exact absurd (Or.inl q) hb
      · exact absurd (Or.inr q) hb
      · exact absurd q x6
end Go.Ab.T

/- Shown and read again: rows and alternatives are read; each nice tree is read again. -/
namespace Go.Ab.T
open Go Go.Ab
set_option linter.unusedVariables false
set_option linter.unusedSimpArgs false
set_option maxRecDepth 20000
theorem drop_lt {T r : List Int} {p : Nat} {x : Int} (h : T.drop p = x :: r) : p < T.length := by
  apply Nat.lt_of_not_le
  intro q
  rw [List.drop_eq_nil_of_le q] at h; cases h
def Part {R : Type} (c : List Int → Int → Int → Int → Bool → AK R → Option R) (kf d : Nat) (t : Sd) : Prop := Reads (yy50 c kf) (prT t) t noRep d ∧ ∃ x u, prT t = x :: u ∧ okH x
abbrev LK3 (R : Type) := List Int → Int → Int → Int → Bool → Int → List Int → List Sd → List Sd → List Sd → Option R
theorem l3_t {R : Type} (c : List Int → Int → Int → Int → Bool → AK R → Option R) (kf d : Nat) (a0 : Int) (b0 : List Int) (c0 e0 : List Sd) (Ke : LK3 R) {T : List Int} (hT : T.length ≤ 90000) {r : List Int} (hr : endC r) :
    ∀ (l : List Sd) (k : Nat) (acc : List Sd) (p : Nat), (∀ x ∈ l, Part c kf d x) → l.length < k → acc.length + l.length ≤ 100000 → p ≤ T.length → T.drop p = catX l ++ r →
    yy41_l3 c kf k a0 b0 c0 e0 Ke T (p : Int) (d : Int) (-1) false acc = Ke T ((p + (catX l).length : Nat) : Int) (d : Int) (-1) false a0 b0 c0 (acc ++ l) e0
  | _, 0, _, _, _, h, _, _, _ => by omega
  | [], k + 1, acc, p, _, _, _, hp, h => by
    have h : T.drop p = r := h
    rw [yy41_l3]
    unfold yy41_l3_b
    rw [over_f, Bool.not_false, cond_true, List.append_nil]
    show _ = Ke T (p : Int) (d : Int) (-1) false a0 b0 c0 acc e0
    cases hre : r with
    | nil =>
      rw [hre] at h
      have := List.drop_eq_nil_iff.1 h
      rw [decide_eq_false (by omega), cond_false]
    | cons x u =>
      rw [hre] at h
      have hlt := drop_lt h
      rw [decide_eq_true (by omega), cond_true, is_c h]
      try dsimp only
      rcases hr x u hre with rfl | rfl
      · rw [show (!decide ((41 : Int) = 124)) = true from rfl, cond_true, is_c h]
        try dsimp only
        rw [show (!decide ((41 : Int) = 41)) = false from rfl, cond_false]
      · rw [show (!decide ((124 : Int) = 124)) = false from rfl, cond_false]
  | x :: l, k + 1, acc, p, hx, hk, ha, hp, h => by
    obtain ⟨hrd, y, u, hy, ho⟩ := hx x (by simp)
    rw [catX_cons, List.append_assoc] at h
    have hyc : T.drop p = y :: (u ++ (catX l ++ r)) := by rw [h, hy]; rfl
    have hlt := drop_lt hyc
    have hnx := drop_more h
    have hpl := drop_len hp h
    rw [yy41_l3]
    unfold yy41_l3_b
    rw [over_f, Bool.not_false, cond_true, decide_eq_true (by omega), cond_true, is_c hyc]
    try dsimp only
    rw [decide_eq_false ho.1, Bool.not_false, cond_true, is_c hyc]
    try dsimp only
    rw [decide_eq_false ho.2.1, Bool.not_false, cond_true]
    rw [hrd T p (catX l ++ r) _ hT hp h ?_]
    rotate_left
    · intro z w hz
      cases l with
      | nil =>
        have hz : r = z :: w := hz
        rcases hr z w hz with rfl | rfl <;> decide
      | cons x' l' =>
        obtain ⟨_, y', u', hy', ho'⟩ := hx x' (by simp)
        rw [catX_cons, hy'] at hz
        injection hz with hz _
        rw [← hz]
        exact ⟨ho'.2.2.1, ho'.2.2.2.1, ho'.2.2.2.2⟩
    simp only [List.length_cons] at hk ha
    try dsimp only
    rw [gd_true (small_of (by simp; omega)), eta]
    rw [l3_t c kf d a0 b0 c0 e0 Ke hT hr l k (acc ++ [x]) (p + (prT x).length) (fun z hz => hx z (by simp [hz])) (by omega) (by simp; omega) (by omega) hnx]
    rw [catX_cons, List.length_append, Nat.add_assoc, List.append_assoc]; rfl
noncomputable def barT : List (List Sd) → List Int
  | [] => []
  | [a] => catX a
  | a :: b :: r => catX a ++ 124 :: barT (b :: r)
structure RowOk {R : Type} (c : List Int → Int → Int → Int → Bool → AK R → Option R) (kf d : Nat) (a : List Sd) : Prop where
  part : ∀ x ∈ a, Part c kf d x
  len : a.length ≤ 2000
  nl : nodL a ≤ 2000
  fit : ∀ x ∈ a, Fit 30 x
  ft : Fit 30 (catT a)
  pl : plT (catT a) = true
  nd : nod (catT a) ≤ 400
  dp : dep (catT a) ≤ 30
theorem endA.c {r : List Int} (h : endA r) : endC r := fun x u q => Or.inl (h x u q)
theorem l2_t {R : Type} (c : List Int → Int → Int → Int → Bool → AK R → Option R) (kf d : Nat) (hkf : 9040 ≤ kf) (Kr Ke : List Int → Int → Int → Int → Bool → Int → List Int → List Sd → List Sd → Option R) (a0 : Int) (b0 : List Int) (e0 : List Sd) {T : List Int} (hT : T.length ≤ 90000) {r : List Int} (hr : endA r) :
    ∀ (ps : List (List Sd)) (k : Nat) (acc : List Sd) (p : Nat), ps ≠ [] → (∀ a ∈ ps, RowOk c kf d a) → 3000 + ps.length < k → acc.length + ps.length ≤ 100000 → p ≤ T.length → T.drop p = barT ps ++ r →
    yy41_l2 c kf k Kr Ke T (p : Int) (d : Int) (-1) false a0 b0 acc e0 = Ke T ((p + (barT ps).length : Nat) : Int) (d : Int) (-1) false a0 b0 (acc ++ ps.map catT) e0
  | _, 0, _, _, _, _, h, _, _, _ => by omega
  | [], k + 1, _, _, h, _, _, _, _, _ => absurd rfl h
  | [a], k + 1, acc, p, _, hx, hk, ha, hp, h => by
    have h : T.drop p = catX a ++ r := h
    have ho := hx a (by simp)
    have hpl := drop_len hp h
    have hnx := drop_more h
    simp only [List.length_cons, List.length_nil] at hk ha
    rw [yy41_l2]
    unfold yy41_l2_b
    rw [l3_t c kf d _ _ _ _ _ hT hr.c a k [] p ho.part (by have := ho.len; omega) (by have := ho.len; simp; omega) hp h]
    try dsimp only
    rw [List.nil_append, over_f, cond_false, cat_ok kf 30 (by omega) a ho.nl ho.fit]
    rw [made_t kf 30 (by omega) (catT a) ho.ft ho.pl ho.nd ho.dp]
    try dsimp only
    rw [gd_true (small_of (by simp; omega)), eta, over_f, cond_false]
    show _ = Ke T ((p + (catX a).length : Nat) : Int) (d : Int) (-1) false a0 b0 (acc ++ [catT a]) e0
    cases hre : r with
    | nil =>
      rw [hre] at hnx
      rw [is_end hnx]
      rfl
    | cons x u =>
      have := hr x u hre
      subst this
      rw [hre] at hnx
      rw [is_c hnx]
      rfl
  | a :: b :: ps, k + 1, acc, p, _, hx, hk, ha, hp, h => by
    have h : T.drop p = (catX a ++ 124 :: barT (b :: ps)) ++ r := h
    rw [List.append_assoc] at h
    have ho := hx a (by simp)
    have hpl := drop_len hp h
    have hnx : T.drop (p + (catX a).length) = 124 :: (barT (b :: ps) ++ r) := drop_more h
    have hnx2 : T.drop (p + (catX a).length + 1) = barT (b :: ps) ++ r := drop_more (X := [124]) hnx
    have hlt := drop_lt hnx
    simp only [List.length_cons] at hk ha
    rw [yy41_l2]
    unfold yy41_l2_b
    rw [l3_t c kf d _ _ _ _ _ hT (r := 124 :: (barT (b :: ps) ++ r)) (fun x u q => by injection q with q _; exact Or.inr q.symm) a k [] p ho.part (by have := ho.len; omega) (by have := ho.len; simp; omega) hp h]
    try dsimp only
    rw [List.nil_append, over_f, cond_false, cat_ok kf 30 (by omega) a ho.nl ho.fit]
    rw [made_t kf 30 (by omega) (catT a) ho.ft ho.pl ho.nd ho.dp]
    try dsimp only
    rw [gd_true (small_of (by simp; omega)), eta, over_f, cond_false, is_c hnx]
    try dsimp only
    rw [show (!decide ((124 : Int) = 124)) = false from rfl, cond_false, wi1s (p + (catX a).length) (by omega)]
    rw [l2_t c kf d hkf Kr Ke a0 b0 e0 hT hr (b :: ps) k (acc ++ [catT a]) (p + (catX a).length + 1) (by simp) (fun z hz => hx z (List.mem_cons_of_mem _ hz)) (by simp; omega) (by simp; omega) (by omega) hnx2]
    rw [show (barT (a :: b :: ps)).length = (catX a).length + (1 + (barT (b :: ps)).length) by show (catX a ++ 124 :: barT (b :: ps)).length = _; rw [List.length_append, List.length_cons]; omega]
    rw [show p + (catX a).length + 1 + (barT (b :: ps)).length = p + ((catX a).length + (1 + (barT (b :: ps)).length)) by omega, List.append_assoc]; rfl
theorem alt_t {R : Type} (kf d : Nat) (hkf : 9040 ≤ kf) (ps : List (List Sd)) (hps : ps ≠ []) (t : Sd) (hx : ∀ a ∈ ps, RowOk (R := R) (yy41 kf) kf d a) (hl : ps.length ≤ 1000) (hm : altT (ps.map catT) = t) (hn : nodL (ps.map catT) ≤ 1000) (hf : Fit 30 t) (hp : plT t = true) (hnd : nod t ≤ 400) :
    Reads (R := R) (yy41 (kf + 1)) (barT ps) t endA d := by
  intro T p r K hT hpp h hr
  rw [yy41]
  unfold yy41_b
  rw [l2_t (yy41 kf) kf d hkf _ _ _ _ _ hT hr ps kf [] p hps hx (by omega) (by simp; omega) hpp h]
  try dsimp only
  rw [over_f, cond_false, List.nil_append, alt_ok kf 30 (by omega) (ps.map catT) hn (fun z hz => by
    obtain ⟨a, ha, rfl⟩ := List.mem_map.1 hz
    exact (hx a ha).ft), hm]
  rw [made_t kf 30 (by omega) t hf hp hnd hf.1]
end Go.Ab.T

/- Shown and read again: each nice tree; the law ShowBack. -/
namespace Go.Ab.T
open Go Go.Ab
set_option linter.unusedVariables false
set_option linter.unusedSimpArgs false
set_option maxRecDepth 20000
theorem cat_one1 {x : Sd} (hp : plT x = true) (h4 : kd x ≠ 4) : catT [x] = x := by
  have hf : flatT 4 [x] = [x] := flat_id fun y hy => by rw [List.mem_singleton.1 hy]; exact h4
  unfold catT
  rw [hf]
  by_cases h1 : kd x = 1
  · rw [if_pos (by rw [List.any_cons, decide_eq_true h1]; rfl)]; exact (tree1 hp h1).symm
  rw [if_neg (by rw [List.any_cons, decide_eq_false h1]; simp)]
  by_cases h2 : kd x = 2
  · rw [List.filter_cons, decide_eq_true h2]; exact (tree2 hp h2).symm
  · rw [List.filter_cons, decide_eq_false h2]; rfl
theorem cat_kids {x : Sd} (hp : plT x = true) (h4 : kd x = 4) : catT (kk x) = x := by
  have hf := pl_form hp
  rw [h4] at hf
  obtain ⟨a, b, c⟩ := form4.1 hf
  rw [(cat_plain (pl_kids hp) b).2 c]
  have := eta x
  rw [h4, a] at this
  exact this
theorem alt_one1 {x : Sd} (hp : plT x = true) (hs : isSet (stt x)) (h5 : kd x ≠ 5) : altT [x] = x := by
  have hf : flatT 5 [x] = [x] := flat_id fun y hy => by rw [List.mem_singleton.1 hy]; exact h5
  unfold altT
  rw [hf]
  by_cases h1 : kd x = 1
  · have h2 : altR [x] [] ZS = ([], ZS) := by unfold altR; rw [if_pos h1]; rfl
    rw [h2, if_pos rfl]; exact (tree1 hp h1).symm
  by_cases h3 : kd x = 3
  · have h2 : altR [x] [] ZS = ([], stt x) := by
      unfold altR
      rw [if_neg h1, if_pos h3]
      show ([], uniS ZS (stt x)) = _
      rw [uniS_zero hs]
    have hz : stt x ≠ ZS := by
      have hf := pl_form hp
      rw [h3] at hf
      exact (form3.1 hf).1
    rw [h2, if_neg hz]
    have := tree3 hp h3
    unfold bytesT at this
    rw [if_neg hz] at this
    exact this
  · have h2 : altR [x] [] ZS = ([x], ZS) := by unfold altR; rw [if_neg h1, if_neg h3]; rfl
    rw [h2, if_pos rfl]; rfl
def parts (x : Sd) : List Sd := if kd x = 4 then kk x else if kd x = 2 then [] else [x]
theorem cat_parts {x : Sd} (hp : plT x = true) : catT (parts x) = x := by
  unfold parts
  split
  · rename_i h; exact cat_kids hp h
  split
  · rename_i h; exact (tree2 hp h).symm
  · rename_i h _; exact cat_one1 hp h
theorem text_parts {x : Sd} (h5 : kd x ≠ 5) : catX (parts x) = if kd x = 2 then [] else textT x := by
  unfold parts
  split
  · rename_i h; rw [if_neg (by omega), text4 h]
  split
  · rfl
  · rw [catX_cons]
    unfold prT
    rw [if_neg h5]
    exact List.append_nil _
theorem altX_cons (f : Bool) (x : Sd) (r : List Sd) : altX f (x :: r) = (if f = true then [] else [124]) ++ ((if kd x = 2 then [] else textT x) ++ altX false r) := by rw [altX]
theorem bar_parts : ∀ (l : List Sd), l ≠ [] → (∀ x ∈ l, kd x ≠ 5) → altX true l = barT (l.map parts)
  | [], h, _ => absurd rfl h
  | [x], _, h => by
    rw [altX_cons, ← text_parts (h x (by simp)), show altX false [] = [] by unfold altX; rfl, List.append_nil]; rfl
  | x :: y :: r, _, h => by
    have ih := bar_parts (y :: r) (by simp) fun z hz => h z (List.mem_cons_of_mem _ hz)
    have e : altX false (y :: r) = 124 :: altX true (y :: r) := by rw [altX_cons, altX_cons]; rfl
    rw [altX_cons, ← text_parts (h x (by simp)), e, ih]; rfl
theorem row_of {R : Type} (c : List Int → Int → Int → Int → Bool → AK R → Option R) (kf n d : Nat) (hkf : 9040 ≤ kf) (hn : n + 1 ≤ 30) (hd : d + 1 ≤ 30) (hc : ∀ x, Nc n x → Reads c (textT x) x endA (d + 1)) (he : Reads c [] emptyT endA (d + 1))
    (a : List Sd) (x : Sd) (ha : ∀ y ∈ a, Nc (n + 1) y ∧ kd y ≠ 4 ∧ (kd y = 5 → Nc n y)) (hl : nodL a ≤ 2000) (hca : catT a = x) (hx : Nc (n + 1) x) : RowOk c kf d a where
  part := fun y hy => ⟨rep_t c kf n d hkf hn hd hc he y (ha y hy).1 (ha y hy).2.2 (ha y hy).2.1, pr_hd _ y (Nat.le_refl _) (ha y hy).1.pl⟩
  len := by have := nodL_len a; omega
  nl := hl
  fit := fun y hy => ((ha y hy).1.mono hn).fit
  ft := by rw [hca]; exact (hx.mono hn).fit
  pl := by rw [hca]; exact hx.pl
  nd := by rw [hca]; exact hx.nd
  dp := by rw [hca]; have := hx.dp; omega
theorem rd_e {R : Type} (kf d : Nat) (hkf : 9041 ≤ kf) : Reads (R := R) (yy41 kf) [] emptyT endA d := by
  obtain ⟨k, rfl⟩ : ∃ k, kf = k + 1 := ⟨kf - 1, by omega⟩
  have hE : Fit 30 emptyT := (Gd.empty 30 29 (by omega) (by omega)).fit (by omega)
  refine alt_t k d (by omega) [[]] (by simp) emptyT (fun a ha => ?_) (by simp) ?_ (by show 1 + 0 ≤ 1000; omega) hE pl_empty (by show 1 ≤ 400; omega)
  · rw [List.mem_singleton.1 ha]
    exact ⟨(fun x hx => by cases hx), (by simp), (by show 0 ≤ 2000; omega), (fun x hx => by cases hx), hE, pl_empty, (by show 1 ≤ 400; omega), (by show 1 ≤ 30; omega)⟩
  · exact alt_one1 pl_empty ZS_set (by decide)
theorem rd_ok {R : Type} : ∀ (n d kf : Nat) (t : Sd), Nc n t → d + n ≤ 30 → 9041 + n ≤ kf → Reads (R := R) (yy41 kf) (textT t) t endA d
  | 0, d, kf, t, h, _, _ => by have := dep_pos t; have := h.dp; omega
  | n + 1, d, 0, t, _, _, hk => by omega
  | n + 1, d, kf + 1, t, h, hd, hk => by
    have hc : ∀ x, Nc n x → Reads (R := R) (yy41 kf) (textT x) x endA (d + 1) := fun x hx => rd_ok n (d + 1) kf x hx (by omega) (by omega)
    have he : Reads (R := R) (yy41 kf) [] emptyT endA (d + 1) := rd_e kf (d + 1) (by omega)
    have hrow := row_of (yy41 kf) kf n d (by omega) (by omega) (by omega) hc he
    have hft : Fit 30 t := (h.mono (by omega)).fit
    by_cases h5 : kd t = 5
    · have hka := pl_alt h.pl h5
      have hf := pl_form h.pl
      rw [h5] at hf
      obtain ⟨f1, f2, f3⟩ := form5.1 hf
      have hne : kk t ≠ [] := fun q => by rw [q] at f2; simp at f2
      have hid : ((kk t).map parts).map catT = kk t := by
        rw [List.map_map]
        have : ∀ l : List Sd, (∀ x ∈ l, plT x = true) → l.map (catT ∘ parts) = l := by
          intro l
          induction l with
          | nil => intro _; rfl
          | cons z q ih => intro hz; rw [List.map_cons, ih fun y hy => hz y (by simp [hy])]; show catT (parts z) :: q = _; rw [cat_parts (hz z (by simp))]
        exact this _ (pl_kids h.pl)
      have hnl : nodL (kk t) + 1 ≤ nod t := by rw [nod_eq t]; omega
      have hnd := h.nd
      have hkl := kk_len t
      rw [text5 h5, bar_parts (kk t) hne fun x hx => (hka x hx).1]
      refine alt_t kf d (by omega) _ (by simpa using hne) t (fun a ha => ?_) (by simp; omega) ?_ (by rw [hid]; omega) hft h.pl h.nd
      · obtain ⟨x, hx, rfl⟩ := List.mem_map.1 ha
        have hxn := h.kid hx
        refine hrow (parts x) x (fun y hy => ?_) ?_ (cat_parts hxn.pl) (hxn.mono (by omega))
        · unfold parts at hy
          split at hy
          · rename_i h4
            have hyn : Nc n y := ((hxn.mono (Nat.le_succ n)).kid hy)
            exact ⟨hyn.mono (by omega), (pl_cat hxn.pl h4 y hy).1, fun _ => hyn⟩
          split at hy
          · cases hy
          · rename_i h4 _
            rw [List.mem_singleton.1 hy]
            exact ⟨hxn.mono (by omega), h4, fun _ => hxn⟩
        · have := hxn.nd
          unfold parts
          split
          · have := nod_eq x; omega
          split
          · show 0 ≤ 2000; omega
          · show nod x + 0 ≤ 2000; omega
      · rw [hid, (alt_plain (n := 2000) (pl_kids h.pl) (fun x hx => ((h.kid hx).mono (by omega)).fit) f2).2 f3]
        have := eta t
        rw [h5, f1] at this
        exact this
    · by_cases h4 : kd t = 4
      · have hcat := cat_kids h.pl h4
        have hnl : nodL (kk t) + 1 ≤ nod t := by rw [nod_eq t]; omega
        have hnd := h.nd
        rw [text4 h4]
        refine alt_t kf d (by omega) [kk t] (by simp) t (fun a ha => ?_) (by simp) ?_ ?_ hft h.pl h.nd
        · rw [List.mem_singleton.1 ha]
          exact hrow (kk t) t (fun y hy => ⟨(h.kid hy).mono (by omega), (pl_cat h.pl h4 y hy).1, fun _ => h.kid hy⟩) (by omega) hcat h
        · show altT [catT (kk t)] = t
          rw [hcat]; exact alt_one1 h.pl h.set h5
        · show nod (catT (kk t)) + 0 ≤ 1000
          rw [hcat]; omega
      · have hcat := cat_one1 h.pl h4
        have hnd := h.nd
        have htx : textT t = barT [[t]] := by
          show _ = catX [t]
          rw [catX_cons]
          unfold prT
          rw [if_neg h5]
          exact (List.append_nil _).symm
        rw [htx]
        refine alt_t kf d (by omega) [[t]] (by simp) t (fun a ha => ?_) (by simp) ?_ ?_ hft h.pl h.nd
        · rw [List.mem_singleton.1 ha]
          refine hrow [t] t (fun y hy => ?_) (by show nod t + 0 ≤ 2000; omega) hcat h
          rw [List.mem_singleton.1 hy]
          exact ⟨h, h4, fun q => absurd q h5⟩
        · show altT [catT [t]] = t
          rw [hcat]; exact alt_one1 h.pl h.set h5
        · show nod (catT [t]) + 0 ≤ 1000
          rw [hcat]; omega
theorem text_inj {n : Nat} {t u : Sd} (hn : n ≤ 30) (ht : Nc n t) (hu : Nc n u) (hl : (textT t).length ≤ 90000) (h : textT t = textT u) : t = u := by
  have h1 := rd_ok (R := Sd) n 0 20000 t ht (by omega) (by omega) (textT t) 0 [] (fun a b c _ _ _ _ _ => some (Rose.node (a, b, ()) c)) hl (by omega) (by simp) (fun x u q => by cases q)
  have h2 := rd_ok (R := Sd) n 0 20000 u hu (by omega) (by omega) (textT t) 0 [] (fun a b c _ _ _ _ _ => some (Rose.node (a, b, ()) c)) hl (by omega) (by rw [h]; simp) (fun x u q => by cases q)
  rw [h1] at h2
  have := Option.some.inj h2
  rw [eta, eta] at this
  exact this
theorem parse_t {R : Type} (kf n : Nat) (hkf : 9100 ≤ kf) (hn : n ≤ 30) (t : Sd) (ht : Nc n t) (hl : (textT t).length ≤ 200) (K : Int → List Int → List Sd → Int → Int → Option R) : yy38 kf (textT t) K = K (kd t) (stt t) (kk t) 0 0 := by
  unfold yy38 yy38_b
  rw [decide_eq_false (by omega), cond_false]
  rw [show (0 : Int) = ((0 : Nat) : Int) from rfl]
  rw [rd_ok n 0 kf t ht (by omega) (by omega) (textT t) 0 [] _ (by omega) (by omega) (by simp) (fun x u q => by cases q)]
  try dsimp only
  rw [over_f, Bool.not_false, cond_true, decide_eq_false (by omega), cond_false]
  rfl
theorem back7_ok {R : Type} (kf : Nat) (hkf : 20000 ≤ kf) (l m : List Int) (hl : ∀ x ∈ l, 0 ≤ x ∧ x ≤ 255) (hm : ∀ x ∈ m, 0 ≤ x ∧ x ≤ 255) (K : Bool → Option R) : yy5 kf l m K = K true := by
  unfold yy5 yy5_b
  rw [begun_ok kf (by omega), Bool.not_true, cond_false]
  dsimp only
  by_cases h1 : 80 < (l.length : Int)
  · rw [decide_eq_true h1]; rfl
  by_cases h2 : 80 < (m.length : Int)
  · rw [decide_eq_false h1, decide_eq_true h2]; rfl
  rw [decide_eq_false h1, decide_eq_false h2, cond_false, cond_false]
  obtain ⟨t, p1, gt, nt, hK1⟩ := made_nice (R := R) kf (by omega) l hl (by omega)
  obtain ⟨u, p2, gu, nu, hK2⟩ := made_nice (R := R) kf (by omega) m hm (by omega)
  have ht : Nc 10 t := ⟨gt.pl, gt.sk, nt.1, by have := gt.nd; omega, nt.2⟩
  have hu : Nc 10 u := ⟨gu.pl, gu.sk, nu.1, by have := gu.nd; omega, nu.2⟩
  refine (hK1 _).trans ?_
  refine (hK2 _).trans ?_
  have hft := ht.fit
  have hfu := hu.fit
  have hlen : (textT t).length ≤ 90000 := by have := text_wt _ t (Nat.le_refl _) gt.pl gt.sk; have := gt.wt; omega
  have hsame : ∀ (u : Sd) (K : Bool → Option R), yy34 kf (kd t) (stt t) (kk t) (kd u) (stt u) (kk u) K = K (sameT t u) := fun u K => rsm_ok 10 t u kf hft.1 (by omega) hft.2.1 K
  have hss : sameT t t = true := (sameT_iff 10 t t hft.1).2 rfl
  have hiff : decide (decide (textT t = textT u) = sameT t u) = true := by
    refine decide_eq_true ?_
    by_cases h : t = u
    · rw [← h, hss, decide_eq_true rfl]
    · rw [decide_eq_false fun q => h (text_inj (by omega) ht hu hlen q)]
      cases hq : sameT t u with
      | false => rfl
      | true => exact absurd ((sameT_iff 10 t u hft.1).1 hq) h
  rw [show_ok 10 t kf hft (by omega), showT_made gt]
  by_cases h200 : 200 < ((textT t).length : Int)
  · unfold yy38 yy38_b
    rw [decide_eq_true h200, cond_true]
    try dsimp only
    rw [show_ok 10 t kf hft (by omega), show_ok 10 u kf hfu (by omega), showT_made gt, showT_made gu, hsame, hiff, cond_true]
    rfl
  · rw [parse_t kf 10 (by omega) (by omega) t ht (by omega)]
    try dsimp only
    rw [show_ok 10 t kf hft (by omega), show_ok 10 u kf hfu (by omega), showT_made gt, showT_made gu, hsame, hiff, cond_true]
    rw [show decide ((0 : Int) = 8) = false from rfl, cond_false, show decide ((0 : Int) = 0) = true from rfl, cond_true, hsame, hss]
end Go.Ab.T
