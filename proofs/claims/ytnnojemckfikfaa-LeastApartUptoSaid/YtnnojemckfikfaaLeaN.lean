/- LeaN: a part of the proofs of this seat's statements. -/
import Derived.Test.YtnnojemckfikfaaLeaM
/- Which states are one: least.parts. -/
namespace Go.Ab.T
open Go Go.Ab
set_option linter.unusedVariables false
set_option linter.unusedSimpArgs false

/-! ### first occurrences, and their numbers -/
section
variable {α : Type} [DecidableEq α]
def fstO (σ : Nat → α) (f : Nat) : Bool := (List.range f).all fun u => !decide (σ u = σ f)
theorem fstO_iff {σ : Nat → α} {f : Nat} : fstO σ f = true ↔ ∀ u, u < f → σ u ≠ σ f := by
  unfold fstO
  rw [List.all_eq_true]
  simp [List.mem_range]
theorem fo_ex (σ : Nat → α) : ∀ t : Nat, ∃ f, f ≤ t ∧ fstO σ f = true ∧ σ f = σ t := by
  intro t
  induction t using Nat.strongRecOn with
  | _ t ih =>
    cases h : fstO σ t with
    | true => exact ⟨t, Nat.le_refl _, h, rfl⟩
    | false =>
      have : ¬ ∀ u, u < t → σ u ≠ σ t := fun q => by rw [fstO_iff.2 q] at h; cases h
      obtain ⟨u, hu⟩ := Classical.not_forall.1 this
      obtain ⟨h1, h2⟩ := Classical.not_imp.1 hu
      obtain ⟨f, q1, q2, q3⟩ := ih u h1
      exact ⟨f, by omega, q2, by rw [q3]; exact Classical.not_not.1 h2⟩
noncomputable def fo (σ : Nat → α) (t : Nat) : Nat := (fo_ex σ t).choose
theorem fo_spec (σ : Nat → α) (t : Nat) : fo σ t ≤ t ∧ fstO σ (fo σ t) = true ∧ σ (fo σ t) = σ t := (fo_ex σ t).choose_spec
theorem fst_eq {σ : Nat → α} {f g : Nat} (hf : fstO σ f = true) (hg : fstO σ g = true) (h : σ f = σ g) : f = g := by
  rcases Nat.lt_trichotomy f g with q | q | q
  · exact absurd h (fstO_iff.1 hg f q)
  · exact q
  · exact absurd h.symm (fstO_iff.1 hf g q)
theorem fo_iff {σ : Nat → α} {s t : Nat} : fo σ s = fo σ t ↔ σ s = σ t := by
  obtain ⟨a1, a2, a3⟩ := fo_spec σ s
  obtain ⟨b1, b2, b3⟩ := fo_spec σ t
  constructor
  · intro h; rw [← a3, ← b3, h]
  · intro h; exact fst_eq a2 b2 (by rw [a3, b3, h])
theorem fo_of_fst {σ : Nat → α} {t : Nat} (h : fstO σ t = true) : fo σ t = t := by
  obtain ⟨a1, a2, a3⟩ := fo_spec σ t
  exact fst_eq a2 h a3
theorem fo_min {σ : Nat → α} {s t : Nat} (h : σ s = σ t) : fo σ t ≤ s := by
  have := (fo_spec σ s).1
  rwa [fo_iff.2 h] at this

def nf (σ : Nat → α) (c : Nat) : Nat := (List.range c).countP (fstO σ)
theorem nf_succ (σ : Nat → α) (c : Nat) : nf σ (c + 1) = nf σ c + if fstO σ c = true then 1 else 0 := by
  unfold nf
  rw [List.range_succ, List.countP_append, List.countP_cons, List.countP_nil, Nat.zero_add]
theorem nf_le (σ : Nat → α) (c : Nat) : nf σ c ≤ c := by
  unfold nf
  have := List.countP_le_length (p := fstO σ) (l := List.range c)
  rwa [List.length_range] at this
theorem nf_mono (σ : Nat → α) : ∀ (a d : Nat), nf σ a ≤ nf σ (a + d)
  | a, 0 => Nat.le_refl _
  | a, d + 1 => by
    have := nf_mono σ a d
    rw [← Nat.add_assoc, nf_succ]; omega
theorem nf_lt {σ : Nat → α} {f c : Nat} (hf : fstO σ f = true) (h : f < c) : nf σ f < nf σ c := by
  have h1 := nf_succ σ f
  rw [hf, if_pos rfl] at h1
  have := nf_mono σ (f + 1) (c - (f + 1))
  rw [show f + 1 + (c - (f + 1)) = c by omega] at this
  omega
noncomputable def ix (σ : Nat → α) (t : Nat) : Nat := nf σ (fo σ t)
theorem ix_iff {σ : Nat → α} {s t : Nat} : ix σ s = ix σ t ↔ σ s = σ t := by
  refine Iff.trans ?_ fo_iff
  unfold ix
  constructor
  · intro h
    rcases Nat.lt_trichotomy (fo σ s) (fo σ t) with q | q | q
    · have := nf_lt (fo_spec σ s).2.1 q; omega
    · exact q
    · have := nf_lt (fo_spec σ t).2.1 q; omega
  · intro h; rw [h]
theorem ix_lt {σ : Nat → α} {t c : Nat} (h : t < c) : ix σ t < nf σ c := by
  have := (fo_spec σ t).1
  exact nf_lt (fo_spec σ t).2.1 (by omega)
theorem ix_zero (σ : Nat → α) : ix σ 0 = 0 := by
  have := (fo_spec σ 0).1
  unfold ix
  rw [show fo σ 0 = 0 by omega]; rfl
theorem ix_fst {σ : Nat → α} {t : Nat} (h : fstO σ t = true) : ix σ t = nf σ t := by unfold ix; rw [fo_of_fst h]
end

/-- what tells apart no less has no fewer first ones; and if as many, it tells the same apart -/
theorem nf_refine {α β : Type} [DecidableEq α] [DecidableEq β] {σ : Nat → α} {τ : Nat → β} {k : Nat} (h : ∀ s t, s < k → t < k → τ s = τ t → σ s = σ t) :
    nf σ k ≤ nf τ k ∧ (nf τ k = nf σ k → ∀ s t, s < k → t < k → σ s = σ t → τ s = τ t) := by
  have hsub : ∀ x ∈ List.range k, fstO σ x = true → fstO τ x = true := by
    intro x hx hs
    have hxk := List.mem_range.1 hx
    rw [fstO_iff] at hs ⊢
    intro u hu he
    exact hs u hu (h u x (by omega) hxk he)
  have hle : nf σ k ≤ nf τ k := List.countP_mono_left hsub
  refine ⟨hle, fun heq s t hs ht he => ?_⟩
  -- the first ones are the same
  have hback : ∀ x, x < k → fstO τ x = true → fstO σ x = true := by
    have key : ∀ l : List Nat, (∀ x ∈ l, fstO σ x = true → fstO τ x = true) → l.countP (fstO τ) = l.countP (fstO σ) → ∀ x ∈ l, fstO τ x = true → fstO σ x = true := by
      intro l
      induction l with
      | nil => intro _ _ x hx; cases hx
      | cons a r ih =>
        intro hsub' hc x hx hτ
        rw [List.countP_cons, List.countP_cons] at hc
        have hr : r.countP (fstO σ) ≤ r.countP (fstO τ) := List.countP_mono_left fun y hy => hsub' y (by simp [hy])
        have ha : fstO σ a = true → fstO τ a = true := hsub' a (by simp)
        cases hsa : fstO σ a with
        | true =>
          rw [hsa, ha hsa] at hc
          rcases List.mem_cons.1 hx with rfl | hx
          · exact hsa
          · exact ih (fun y hy => hsub' y (by simp [hy])) (by simpa using hc) x hx hτ
        | false =>
          rw [hsa] at hc
          cases hta : fstO τ a with
          | true => rw [hta] at hc; simp at hc; omega
          | false =>
            rw [hta] at hc
            rcases List.mem_cons.1 hx with rfl | hx
            · rw [hta] at hτ; cases hτ
            · exact ih (fun y hy => hsub' y (by simp [hy])) (by simpa using hc) x hx hτ
    intro x hx
    exact key (List.range k) hsub heq x (List.mem_range.2 hx)
  obtain ⟨a1, a2, a3⟩ := fo_spec τ s
  obtain ⟨b1, b2, b3⟩ := fo_spec τ t
  have e1 := h _ _ (by omega) hs a3
  have e2 := h _ _ (by omega) ht b3
  have := fst_eq (hback _ (by omega) a2) (hback _ (by omega) b2) (by rw [e1, e2, he])
  rw [← a3, ← b3, this]

/-! ### a state's mark -/
def enc (v : Nat) : List Int := [((v % 256 : Nat) : Int), ((v / 256 % 256 : Nat) : Int)]
def markL (l : List Nat) : List Int := l.flatMap enc
theorem markL_inj : ∀ (l l' : List Nat), (∀ x ∈ l, x < 65536) → (∀ x ∈ l', x < 65536) → markL l = markL l' → l = l'
  | [], [], _, _, _ => rfl
  | [], b :: l', _, _, h => by simp [markL, enc] at h
  | a :: l, [], _, _, h => by simp [markL, enc] at h
  | a :: l, b :: l', h1, h2, h => by
    have ha := h1 a (by simp)
    have hb := h2 b (by simp)
    unfold markL at h
    rw [List.flatMap_cons, List.flatMap_cons] at h
    simp only [enc, List.cons_append, List.nil_append, List.cons.injEq] at h
    obtain ⟨e1, e2, e3⟩ := h
    rw [show a = b by omega, markL_inj l l' (fun x hx => h1 x (by simp [hx])) (fun x hx => h2 x (by simp [hx])) e3]
theorem markL_len (l : List Nat) : (markL l).length = 2 * l.length := by
  unfold markL
  induction l with
  | nil => rfl
  | cons a r ih => rw [List.flatMap_cons, List.length_append, ih]; simp [enc]; omega
theorem enc_ok (v : Nat) (hv : v < 65536) : [IntKind.u8.wrap (v : Int), IntKind.u8.wrap (shr .i64 (v : Int) 8)] = enc v := by
  have h2 : shr .i64 (v : Int) 8 = ((v / 256 : Nat) : Int) := by
    unfold shr
    have hb : min (8 : Int).toNat IntKind.i64.bits = 8 := by decide
    rw [wall_eq, hb, Int.fdiv_eq_ediv_of_nonneg _ (by decide)]
    have e : (2 : Int) ^ 8 = 256 := by decide
    rw [e]; omega
  rw [h2]
  unfold enc
  simp only [IntKind.wrap_u8]
  congr 1

def rowN (N : List (List Int)) (s a : Nat) : Nat := ((N.getD s []).getD a 0).toNat
/-- a part, and those that one comes to by each class -/
def sig (N : List (List Int)) (m : Nat) (p : Nat → Nat) (s : Nat) : List Nat := p s :: (List.range m).map fun a => p (rowN N s a)
theorem sig_iff {N : List (List Int)} {m : Nat} {p : Nat → Nat} {s t : Nat} : sig N m p s = sig N m p t ↔ p s = p t ∧ ∀ a, a < m → p (rowN N s a) = p (rowN N t a) := by
  unfold sig
  rw [List.cons.injEq]
  constructor
  · rintro ⟨h1, h2⟩
    refine ⟨h1, fun a ha => ?_⟩
    have := congrArg (fun l => l[a]?) h2
    simp only [List.getElem?_map, List.getElem?_range ha, Option.map_some, Option.some.injEq] at this
    exact this
  · rintro ⟨h1, h2⟩
    refine ⟨h1, List.map_congr_left fun a ha => h2 a (List.mem_range.1 ha)⟩

/-- a list of parts -/
def PL (k : Nat) (p : Nat → Nat) (l : List Int) : Prop := l.length = k ∧ ∀ s, s < k → l.getD s 0 = ((p s : Nat) : Int)

theorem mget_mset' {α β : Type} [DecidableEq α] (m : List (α × β)) (a b : α) (v : β) : mget (mset m a v) b = if b = a then some v else mget m b := by
  unfold mget mset
  induction m with
  | nil =>
    simp only [mput, mfind]
    by_cases h : b = a
    · rw [decide_eq_true h, if_pos h]; rfl
    · rw [decide_eq_false h, if_neg h]; rfl
  | cons x r ih =>
    obtain ⟨c, w⟩ := x
    simp only [mput]
    by_cases hac : a = c
    · rw [decide_eq_true hac]
      simp only [cond_true, mfind]
      by_cases h : b = a
      · rw [decide_eq_true h, if_pos h]; rfl
      · have hbc : ¬ b = c := by rw [← hac]; exact h
        rw [decide_eq_false h, decide_eq_false hbc, if_neg h]; rfl
    · rw [decide_eq_false hac]
      simp only [cond_false, mfind]
      by_cases hbc : b = c
      · rw [decide_eq_true hbc]
        have : ¬ b = a := fun h => hac (by rw [← h, hbc])
        rw [if_neg this]; rfl
      · rw [decide_eq_false hbc]
        simp only [cond_false]
        exact ih
theorem mset_len {α β : Type} [DecidableEq α] (m : List (α × β)) (a : α) (v : β) (h : mget m a = none) : (mset m a v).length = m.length + 1 := by
  unfold mget at h
  unfold mset
  induction m with
  | nil => rfl
  | cons x r ih =>
    obtain ⟨c, w⟩ := x
    simp only [mfind] at h
    simp only [mput]
    by_cases hac : a = c
    · rw [decide_eq_true hac] at h; cases h
    · rw [decide_eq_false hac] at h ⊢
      simp only [cond_false] at h ⊢
      rw [List.length_cons, ih h, List.length_cons]

section
variable {R : Type} {C : List Int} {N : List (List Int)} {E : List Bool} {k m : Nat}

theorem mark_ok (h : Mch C N E k m) (kf : Nat) (hkf : 1000 ≤ kf) (p : Nat → Nat) (hp : ∀ s, s < k → p s < 65536) (l : List Int) (hl : PL k p l) (s : Nat) (hs : s < k) (K : List Int → Option R) : least_mark kf ((p s : Nat) : Int) (N.getD s []) l K = K (markL (sig N m p s)) := by
  unfold least_mark least_mark_b
  have hm2 := h.m2
  obtain ⟨r1, r2⟩ := h.row s hs
  rw [enc_ok (p s) (hp s hs)]
  refine loop_inv (fun kk a (acc : List Int) => least_mark_l3 kf kk l (N.getD s []) ((N.getD s []).length : Int) (fun v9 => K v9) (a : Int) acc) _ m 0
    (fun a acc => acc = markL (p s :: (List.range a).map fun a => p (rowN N s a)) ∧ a ≤ m) ?_ ?_ m kf 0 _ (by omega) (by omega) ⟨by simp [markL], by omega⟩
  · rintro kk acc ⟨rfl, _⟩
    rw [least_mark_l3]
    unfold least_mark_l3_b
    rw [decide_eq_false (show ¬ ((m : Int) < ((N.getD s []).length : Int)) by omega), cond_false]
    rfl
  · rintro kk a acc _ ha ⟨rfl, _⟩
    left
    obtain ⟨q1, q2⟩ := h.row_lt hs ha
    have hrn : rowN N s a = ((N.getD s []).getD a 0).toNat := rfl
    rw [← hrn] at q1 q2
    refine ⟨_, ⟨rfl, by omega⟩, ?_⟩
    have hml : (markL (p s :: (List.range a).map fun a => p (rowN N s a))).length ≤ 1000 := by rw [markL_len]; simp; omega
    rw [least_mark_l3]
    unfold least_mark_l3_b
    rw [decide_eq_true (show (a : Int) < ((N.getD s []).length : Int) by omega), cond_true, gdd (by omega), gd_true rfl, Int.toNat_natCast, q2, gdd (by omega), gdd (by have := hl.1; omega), gdd (by omega), gdd (by have := hl.1; omega), Int.toNat_natCast, hl.2 _ q1, enc_ok _ (hp _ q1), gdd (by rw [small_eq]; simp [enc]; omega), wi_1 a (by omega)]
    congr 1
    unfold markL
    rw [List.range_succ, List.map_append, List.flatMap_cons, List.flatMap_cons, List.flatMap_append, List.append_assoc]
    simp

/-- one round -/
theorem l12_ok (h : Mch C N E k m) (kf k0 : Nat) (hkf : 1000 ≤ kf) (hk0 : k < k0) (p : Nat → Nat) (hp : ∀ s, s < k → p s < 65536) (l : List Int) (hl : PL k p l) (v22 : Int)
    (Ke : Int → (List Int) → (List (List Int)) → (List Bool) → (List Int) → (List (List Int × Int)) → Option R) (T : Option R)
    (hT : ∀ (l' : List Int) (mp : List (List Int × Int)), PL k (ix (sig N m p)) l' → mp.length = nf (sig N m p) k → Ke v22 C N E l' mp = T) :
    least_parts_l12 kf k0 v22 N (N.length : Int) C N E l Ke 0 (List.replicate k (0 : Int)) ([] : List (List Int × Int)) = T := by
  have hN := h.nl; have hk2 := h.k2
  have hinj : ∀ s t, s < k → t < k → (markL (sig N m p s) = markL (sig N m p t) ↔ sig N m p s = sig N m p t) := by
    intro s t hs ht
    have hb : ∀ s, s < k → ∀ x ∈ sig N m p s, x < 65536 := by
      intro s hs x hx
      unfold sig at hx
      rcases List.mem_cons.1 hx with rfl | hx
      · exact hp s hs
      · rw [List.mem_map] at hx
        obtain ⟨a, ha, rfl⟩ := hx
        exact hp _ (h.row_lt hs (List.mem_range.1 ha)).1
    exact ⟨fun q => markL_inj _ _ (hb s hs) (hb t ht) q, fun q => by rw [q]⟩
  generalize hσ : sig N m p = σ at hinj hT
  refine loop_inv (fun kk s (acc : List Int × List (List Int × Int)) => least_parts_l12 kf kk v22 N (N.length : Int) C N E l Ke (s : Int) acc.1 acc.2) T k 0
    (fun s acc => acc.1.length = k ∧ (∀ t, t < s → acc.1.getD t 0 = ((ix σ t : Nat) : Int)) ∧ acc.2.length = nf σ s ∧ (∀ t, t < s → mget acc.2 (markL (σ t)) = some ((ix σ t : Nat) : Int)) ∧
      ∀ t, t < k → (∀ u, u < s → σ u ≠ σ t) → mget acc.2 (markL (σ t)) = none) ?_ ?_ k k0 0 (List.replicate k (0 : Int), []) (by omega) (by omega)
    ⟨List.length_replicate, fun t ht => by omega, rfl, fun t ht => by omega, fun t _ _ => rfl⟩
  · rintro kk ⟨l', mp⟩ ⟨h1, h2, h3, h4, h5⟩
    rw [least_parts_l12]
    unfold least_parts_l12_b
    rw [decide_eq_false (show ¬ ((k : Int) < (N.length : Int)) by omega), cond_false]
    exact hT l' mp ⟨h1, h2⟩ h3
  · rintro kk s ⟨l', mp⟩ _ hs ⟨h1, h2, h3, h4, h5⟩
    simp only at h1 h2 h3 h4 h5
    left
    have hnf := nf_le σ s
    rw [least_parts_l12]
    unfold least_parts_l12_b
    rw [decide_eq_true (show (s : Int) < (N.length : Int) by omega), cond_true, gdd (by omega), gdd (by omega), gd_true rfl, gdd (by have := hl.1; omega), Int.toNat_natCast, hl.2 s hs, mark_ok h kf hkf p hp l hl s hs, hσ]
    have hw := wi_1 s (show s < 4000000000000000000 by omega)
    have g0 : decide (0 ≤ (s : Int)) = true := decide_eq_true (by omega)
    have g1 : decide ((s : Int) < (l'.length : Int)) = true := decide_eq_true (by omega)
    have g2 : decide (mp.length < SMALL) = true := decide_eq_true (by rw [small_eq]; omega)
    have hset : ∀ (v : Int) (t : Nat), (l'.set s v).getD t 0 = if s = t ∧ t < l'.length then v else l'.getD t 0 := fun v t => getD_set' l' s t v 0
    cases hf : fstO σ s with
    | true =>
      have hno := fstO_iff.1 hf
      have hnone := h5 s hs hno
      refine ⟨(l'.set s (mp.length : Int), mset mp (markL (σ s)) (mp.length : Int)), ⟨by simp only; rw [List.length_set]; exact h1, fun t ht => ?_, ?_, fun t ht => ?_, fun t ht hu => ?_⟩, ?_⟩
      · simp only [hset]
        by_cases hst : s = t
        · subst hst
          rw [if_pos ⟨rfl, by omega⟩, h3, ix_fst hf]
        · rw [if_neg (fun q => hst q.1)]; exact h2 t (by omega)
      · simp only
        rw [mset_len _ _ _ hnone, h3, nf_succ, hf, if_pos rfl]
      · simp only
        rw [mget_mset']
        by_cases hst : s = t
        · subst hst
          rw [if_pos rfl, h3, ix_fst hf]
        · have hne : ¬ markL (σ t) = markL (σ s) := fun q => hno t (by omega) ((hinj t s (by omega) hs).1 q)
          rw [if_neg hne]; exact h4 t (by omega)
      · simp only
        rw [mget_mset']
        have hne : ¬ markL (σ t) = markL (σ s) := fun q => hu s (by omega) ((hinj t s ht hs).1 q).symm
        rw [if_neg hne]
        exact h5 t ht fun u hu' => hu u (by omega)
      · simp only [hnone, Option.isSome_none, Bool.not_false, cond_true, g2, gd, g0, g1, Int.toNat_natCast, hw]
    | false =>
      have hex : ∃ u, u < s ∧ σ u = σ s := by
        have : ¬ ∀ u, u < s → σ u ≠ σ s := fun q => by rw [fstO_iff.2 q] at hf; cases hf
        obtain ⟨u, hu⟩ := Classical.not_forall.1 this
        obtain ⟨q1, q2⟩ := Classical.not_imp.1 hu
        exact ⟨u, q1, Classical.not_not.1 q2⟩
      obtain ⟨u, hu, hus⟩ := hex
      have hsome : mget mp (markL (σ s)) = some ((ix σ s : Nat) : Int) := by
        rw [← hus, h4 u hu, ix_iff.2 hus]
      refine ⟨(l'.set s ((ix σ s : Nat) : Int), mp), ⟨by simp only; rw [List.length_set]; exact h1, fun t ht => ?_, ?_, fun t ht => ?_, fun t ht hu' => ?_⟩, ?_⟩
      · simp only [hset]
        by_cases hst : s = t
        · subst hst
          rw [if_pos ⟨rfl, by omega⟩]
        · rw [if_neg (fun q => hst q.1)]; exact h2 t (by omega)
      · simp only
        rw [h3, nf_succ, hf]; simp
      · by_cases hst : s = t
        · subst hst; exact hsome
        · exact h4 t (by omega)
      · exact h5 t ht fun u hu'' => hu' u (by omega)
      · simp only [hsome, Option.isSome_some, Bool.not_true, cond_false, g0, g1, gd, cond_true, Int.toNat_natCast, hw, Option.getD_some]

def p0 (E : List Bool) (s : Nat) : Nat := if en E s = en E 0 then 0 else 1
theorem nf_p0 (E : List Bool) : ∀ c, nf (p0 E) c = if c = 0 then 0 else 1 + if ((List.range c).any fun u => decide (p0 E u = 1)) = true then 1 else 0
  | 0 => rfl
  | c + 1 => by
    rw [nf_succ, nf_p0 E c, if_neg (by omega : ¬ c + 1 = 0), List.range_succ, List.any_append]
    simp only [List.any_cons, List.any_nil, Bool.or_false]
    have h00 : p0 E 0 = 0 := by unfold p0; simp
    by_cases hc : c = 0
    · subst hc
      simp [h00, fstO]
    · rw [if_neg hc]
      have hv : p0 E c = 0 ∨ p0 E c = 1 := by unfold p0; split <;> simp
      rcases hv with h0 | h1
      · have hf : fstO (p0 E) c = false := by
          cases hq : fstO (p0 E) c with
          | false => rfl
          | true => exact absurd (by rw [h00, h0]) (fstO_iff.1 hq 0 (by omega))
        rw [hf, h0]; simp
      · cases ha : (List.range c).any fun u => decide (p0 E u = 1) with
        | true =>
          have hf : fstO (p0 E) c = false := by
            cases hq : fstO (p0 E) c with
            | false => rfl
            | true =>
              rw [List.any_eq_true] at ha
              obtain ⟨u, hu, he⟩ := ha
              exact absurd (by rw [of_decide_eq_true he, h1]) (fstO_iff.1 hq u (List.mem_range.1 hu))
          rw [hf]; simp
        | false =>
          have hf : fstO (p0 E) c = true := by
            rw [fstO_iff]
            intro u hu he
            have : ((List.range c).any fun u => decide (p0 E u = 1)) = true := by
              rw [List.any_eq_true]
              exact ⟨u, List.mem_range.2 hu, decide_eq_true (by rw [he, h1])⟩
            rw [ha] at this; cases this
          rw [hf, h1]; simp

/-- what the rounds keep -/
structure Rnd (C : List Int) (N : List (List Int)) (E : List Bool) (k : Nat) (p : Nat → Nat) : Prop where
  fine : ∀ s t, s < k → t < k → eqs C N E s t → p s = p t
  ends : ∀ s t, s < k → t < k → p s = p t → en E s = en E t
  lt : ∀ s, s < k → p s < 65536

theorem Rnd.round (h : Mch C N E k m) {p : Nat → Nat} (hp : Rnd C N E k p) : Rnd C N E k (ix (sig N m p)) := by
  refine ⟨fun s t hs ht he => ?_, fun s t hs ht he => ?_, fun s hs => ?_⟩
  · rw [ix_iff, sig_iff]
    refine ⟨hp.fine s t hs ht he, fun a ha => ?_⟩
    obtain ⟨b, hb, hba⟩ := h.inh a ha
    have e1 : ∀ x, rowN N x a = dl C N x b := fun x => by unfold rowN dl; rw [hba]; rfl
    rw [e1, e1]
    exact hp.fine _ _ (h.dl_lt hs hb) (h.dl_lt ht hb) (eqs_step he hb)
  · rw [ix_iff, sig_iff] at he
    exact hp.ends s t hs ht he.1
  · have := ix_lt (σ := sig N m p) hs
    have := nf_le (sig N m p) k
    have := h.k2
    omega

/-- when a round tells no more apart, who is in one part is alike -/
theorem Rnd.stable (h : Mch C N E k m) {p : Nat → Nat} (hp : Rnd C N E k p) (hst : ∀ s t, s < k → t < k → p s = p t → sig N m p s = sig N m p t) : ∀ s t, s < k → t < k → (p s = p t ↔ eqs C N E s t) := by
  intro s t hs ht
  refine ⟨fun he => ?_, hp.fine s t hs ht⟩
  have key : ∀ (v : List Nat) (s t : Nat), s < k → t < k → p s = p t → isBy v → en E (dls C N s v) = en E (dls C N t v) := by
    intro v
    induction v with
    | nil => intro s t hs ht he _; exact hp.ends s t hs ht he
    | cons b v ih =>
      intro s t hs ht he hv
      have hb := hv b (by simp)
      have hsg := (sig_iff.1 (hst s t hs ht he)).2 (C.getD b 0).toNat (h.cls_lt b hb).1
      exact ih _ _ (h.dl_lt hs hb) (h.dl_lt ht hb) hsg fun x hx => hv x (by simp [hx])
  exact fun v hv => key v s t hs ht he hv

theorem parts_ok (h : Mch C N E k m) (kf : Nat) (hkf : 20000 ≤ kf) (K : List Int → Option R) (T : Option R)
    (hT : ∀ (p : Nat → Nat) (l : List Int), PL k p l → (∀ s t, s < k → t < k → (p s = p t ↔ eqs C N E s t)) → (∀ s, s < k → p s < k) → p 0 = 0 → K l = T) : least_parts kf C N E K = T := by
  unfold least_parts least_parts_b
  have hN := h.nl; have hE := h.el; have hk1 := h.k1; have hk2 := h.k2
  have hsm : ∀ x : Nat, x ≤ 2000 → (x : Int) < (SMALL : Int) := fun x hx => by rw [small_eq]; omega
  rw [gdd (by omega), gdd (by omega), gdd (hsm _ (by omega)), Int.toNat_natCast, hN]
  refine loop_all (fun kk s (acc : Int × List Int) => least_parts_l4 kf kk E (E.length : Int) C N E (fun (v12 : Int) (v13 : List Int) (v14 : List (List Int)) (v15 : List Bool) (v16 : List Int) => least_parts_l9 kf kf (fun (v42 : List Int) => K v42) v12 v13 v14 v15 v16) acc.1 (s : Int) acc.2) T k 0
    (fun s acc => acc.1 = 1 + (if ((List.range s).any fun u => decide (p0 E u = 1)) = true then 1 else 0) ∧ acc.2.length = k ∧ ∀ t, t < k → acc.2.getD t 0 = if t < s then ((p0 E t : Nat) : Int) else 0) ?_ ?_ k kf 0 (1, List.replicate k (0 : Int)) (by omega) (by omega)
    ⟨rfl, List.length_replicate, fun t ht => by rw [getD_rep]; simp⟩
  · rintro kk ⟨c, l⟩ ⟨h1, h2, h3⟩
    simp only at h1 h2 h3
    rw [least_parts_l4]
    unfold least_parts_l4_b
    rw [decide_eq_false (show ¬ ((k : Int) < (E.length : Int)) by omega), cond_false]
    dsimp only
    have hc : c = ((nf (p0 E) k : Nat) : Int) := by
      have hk0 : ¬ k = 0 := by omega
      rw [h1, nf_p0 E k, if_neg hk0]
      cases (List.range k).any fun u => decide (p0 E u = 1) <;> rfl
    have hR0 : Rnd C N E k (p0 E) := by
      refine ⟨fun s t hs ht he => ?_, fun s t hs ht he => ?_, fun s hs => ?_⟩
      · have : en E s = en E t := he [] fun b hb => (nomatch hb)
        unfold p0; rw [this]
      · unfold p0 at he
        split at he <;> split at he
        · rename_i a b; rw [a, b]
        · cases he
        · cases he
        · rename_i a b
          revert a b
          cases en E s <;> cases en E t <;> cases en E 0 <;> simp
      · unfold p0; split <;> omega
    refine loop_meas (fun kk (acc : (Nat → Nat) × Int × List Int) => least_parts_l9 kf kk (fun (v42 : List Int) => K v42) acc.2.1 C N E acc.2.2) T (fun acc => k + 1 - nf acc.1 k) 3000
      (fun acc => Rnd C N E k acc.1 ∧ PL k acc.1 acc.2.2 ∧ acc.2.1 = ((nf acc.1 k : Nat) : Int)) ?_ kf (p0 E, c, l) (by simp only; omega) ⟨hR0, ⟨h2, fun s hs => by rw [h3 s hs, if_pos hs]⟩, hc⟩
    rintro kk ⟨p, c, l⟩ hB ⟨q1, q2, q3⟩ hrest
    simp only at q1 q2 q3 hrest
    have hq2 : l.length = k := q2.1
    rw [least_parts_l9]
    unfold least_parts_l9_b
    dsimp only
    rw [gdd (by omega), gdd (by omega), gdd (hsm _ (by omega)), Int.toNat_natCast, hq2]
    refine l12_ok h kf kk (by omega) (by omega) p q1.lt l q2 _ _ T fun l' mp z1 z2 => ?_
    have hnfk := nf_le (sig N m p) k
    obtain ⟨r1, r2⟩ := nf_refine (σ := p) (τ := sig N m p) (k := k) fun s t _ _ he => (sig_iff.1 he).1
    rw [gdd (by rw [small_eq]; omega)]
    by_cases hcc : (mp.length : Int) = c
    · rw [decide_eq_true hcc, cond_true]
      have hst := r2 (by omega)
      have hiff := q1.stable h hst
      refine hT (ix (sig N m p)) l' z1 (fun s t hs ht => ?_) (fun s hs => ?_) (ix_zero _)
      · rw [ix_iff]
        constructor
        · intro he; exact (hiff s t hs ht).1 (sig_iff.1 he).1
        · intro he; exact hst s t hs ht ((hiff s t hs ht).2 he)
      · have := ix_lt (σ := sig N m p) hs; omega
    · rw [decide_eq_false hcc, cond_false, gdd (by rw [small_eq]; omega)]
      have hnn : nf (ix (sig N m p)) k = nf (sig N m p) k := by
        have a1 := (nf_refine (σ := ix (sig N m p)) (τ := sig N m p) (k := k) fun s t _ _ he => ix_iff.2 he).1
        have a2 := (nf_refine (σ := sig N m p) (τ := ix (sig N m p)) (k := k) fun s t _ _ he => ix_iff.1 he).1
        omega
      refine hrest (ix (sig N m p), (mp.length : Int), l') ⟨q1.round h, z1, ?_⟩ ?_
      · simp only
        rw [hnn, z2]
      · simp only
        have hle := nf_le p k
        omega
  · rintro kk s ⟨c, l⟩ hB hs ⟨h1, h2, h3⟩ hrest
    simp only at h1 h2 h3
    have hw := wi_1 s (show s < 4000000000000000000 by omega)
    have hset : ∀ (v : Int) (t : Nat), (l.set s v).getD t 0 = if s = t ∧ t < l.length then v else l.getD t 0 := fun v t => getD_set' l s t v 0
    have hany : ((List.range (s + 1)).any fun u => decide (p0 E u = 1)) = (((List.range s).any fun u => decide (p0 E u = 1)) || decide (p0 E s = 1)) := by
      rw [List.range_succ, List.any_append]; simp
    rw [least_parts_l4]
    unfold least_parts_l4_b
    rw [decide_eq_true (show (s : Int) < (E.length : Int) by omega), cond_true, gdd (by omega), gd_true rfl, gdd (by omega), Int.toNat_natCast]
    by_cases he : E.getD s false = E.getD 0 false
    · have hp : p0 E s = 0 := by unfold p0 en; rw [if_pos he]
      rw [decide_eq_true he, Bool.not_true, cond_false, hw]
      refine hrest (c, l) ⟨?_, h2, fun t ht => ?_⟩
      · simp only
        rw [h1, hany, hp]; simp
      · simp only
        rw [h3 t ht]
        by_cases hts : t = s
        · subst hts
          rw [if_neg (by omega), if_pos (by omega), hp]; rfl
        · by_cases hlt : t < s
          · rw [if_pos hlt, if_pos (by omega)]
          · rw [if_neg hlt, if_neg (by omega)]
    · have hp : p0 E s = 1 := by unfold p0 en; rw [if_neg he]
      have g1 : decide ((s : Int) < (l.length : Int)) = true := decide_eq_true (by omega)
      have g0 : decide (0 ≤ (s : Int)) = true := decide_eq_true (by omega)
      rw [decide_eq_false he, Bool.not_false, cond_true]
      simp only [g0, g1, gd, cond_true, hw]
      refine hrest (2, l.set s 1) ⟨?_, by simp only; rw [List.length_set]; exact h2, fun t ht => ?_⟩
      · simp only
        rw [hany, hp]; simp
      · simp only [hset]
        by_cases hts : s = t
        · subst hts
          rw [if_pos ⟨rfl, by omega⟩, if_pos (by omega), hp]; rfl
        · rw [if_neg (fun q => hts q.1), h3 t ht]
          by_cases hlt : t < s
          · rw [if_pos hlt, if_pos (by omega)]
          · rw [if_neg hlt, if_neg (by omega)]

/-- of each state the lowest one that is one with it -/
theorem lparts_ok (h : Mch C N E k m) (kf : Nat) (hkf : 20000 ≤ kf) (K : List Int → Option R) (T : Option R)
    (hT : ∀ (f : Nat → Nat) (l : List Int), PL k f l → (∀ s, s < k → f s ≤ s ∧ eqs C N E (f s) s ∧ ∀ t, t < k → eqs C N E t s → f s ≤ t) → K l = T) : least_Parts kf C N E K = T := by
  unfold least_Parts least_Parts_b
  have hk2 := h.k2
  rw [may_ok h kf (by omega)]
  rw [Bool.not_true, cond_false]
  refine parts_ok h kf hkf _ T fun p l q1 q2 q3 q4 => ?_
  have hl := q1.1
  refine loop_inv (fun kk s (acc : List (Int × Int) × List Int) => least_Parts_l6 kf kk (l.length : Int) l (fun (v13 : List Int) => K v13) (s : Int) acc.1 acc.2) T k 0
    (fun s acc => acc.2.length = s ∧ (∀ t, t < s → acc.2.getD t 0 = ((fo p t : Nat) : Int)) ∧ (∀ t, t < s → mget acc.1 ((p t : Nat) : Int) = some ((fo p t : Nat) : Int)) ∧ ∀ t, t < k → (∀ u, u < s → p u ≠ p t) → mget acc.1 ((p t : Nat) : Int) = none) ?_ ?_ k kf 0 ([], []) (by omega) (by omega)
    ⟨rfl, fun t ht => by omega, fun t ht => by omega, fun t _ _ => rfl⟩
  · rintro kk ⟨mp, out⟩ ⟨h1, h2, h3, h4⟩
    rw [least_Parts_l6]
    unfold least_Parts_l6_b
    rw [decide_eq_false (show ¬ ((k : Int) < (l.length : Int)) by omega), cond_false]
    refine hT (fo p) out ⟨h1, h2⟩ fun s hs => ?_
    obtain ⟨a1, a2, a3⟩ := fo_spec p s
    refine ⟨a1, (q2 _ _ (by omega) hs).1 a3, fun t ht he => fo_min ((q2 t s ht hs).2 he)⟩
  · rintro kk s ⟨mp, out⟩ _ hs ⟨h1, h2, h3, h4⟩
    simp only at h1 h2 h3 h4
    left
    have hw := wi_1 s (show s < 4000000000000000000 by omega)
    have hsn : ∀ (v : Int) (t : Nat), (out ++ [v]).getD t 0 = if t < out.length then out.getD t 0 else if t = out.length then v else 0 := fun v t => snoc_getD out v 0 t
    have g0 : decide (0 ≤ (s : Int)) = true := decide_eq_true (by omega)
    have g1 : decide ((s : Int) < (l.length : Int)) = true := decide_eq_true (by omega)
    have g2 : ∀ v : Int, decide (out.length + ([v] : List Int).length < SMALL) = true := fun v => decide_eq_true (by rw [small_eq]; simp; omega)
    have hmain : ∀ mp' : List (Int × Int), mget mp' ((p s : Nat) : Int) = some ((fo p s : Nat) : Int) → (∀ t, t < s → mget mp' ((p t : Nat) : Int) = some ((fo p t : Nat) : Int)) → (∀ t, t < k → (∀ u, u < s + 1 → p u ≠ p t) → mget mp' ((p t : Nat) : Int) = none) →
        (out ++ [((fo p s : Nat) : Int)]).length = s + 1 ∧ (∀ t, t < s + 1 → (out ++ [((fo p s : Nat) : Int)]).getD t 0 = ((fo p t : Nat) : Int)) ∧ (∀ t, t < s + 1 → mget mp' ((p t : Nat) : Int) = some ((fo p t : Nat) : Int)) ∧ ∀ t, t < k → (∀ u, u < s + 1 → p u ≠ p t) → mget mp' ((p t : Nat) : Int) = none := by
      intro mp' z1 z2 z3
      refine ⟨by simp [h1], fun t ht => ?_, fun t ht => ?_, z3⟩
      · rw [hsn]
        by_cases hts : t < s
        · rw [if_pos (by omega)]; exact h2 t hts
        · rw [if_neg (by omega), if_pos (by omega), show t = s by omega]
      · by_cases hts : t < s
        · exact z2 t hts
        · rw [show t = s by omega]; exact z1
    rw [least_Parts_l6]
    unfold least_Parts_l6_b
    cases hf : fstO p s with
    | true =>
      have hno := fstO_iff.1 hf
      have hnone := h4 s hs hno
      refine ⟨(mset mp ((p s : Nat) : Int) (s : Int), out ++ [((fo p s : Nat) : Int)]), hmain _ ?_ (fun t ht => ?_) (fun t ht hu => ?_), ?_⟩
      · rw [mget_mset', if_pos rfl, fo_of_fst hf]
      · have hne : ¬ ((p t : Nat) : Int) = ((p s : Nat) : Int) := fun q => hno t ht (by omega)
        rw [mget_mset', if_neg hne]; exact h3 t ht
      · have hne : ¬ ((p t : Nat) : Int) = ((p s : Nat) : Int) := fun q => hu s (by omega) (by omega)
        rw [mget_mset', if_neg hne]; exact h4 t ht fun u hu' => hu u (by omega)
      · have hgot : (mget (mset mp ((p s : Nat) : Int) (s : Int)) ((p s : Nat) : Int)).getD (0 : Int) = ((fo p s : Nat) : Int) := by rw [mget_mset', if_pos rfl, fo_of_fst hf]; rfl
        dsimp only
        rw [g1, cond_true, g0, gd_true rfl, gd_true rfl, Int.toNat_natCast, q1.2 s hs, hnone, Option.isSome_none, Bool.not_false, cond_true, hgot, g2, gd_true rfl, hw]
    | false =>
      have hex : ∃ u, u < s ∧ p u = p s := by
        have : ¬ ∀ u, u < s → p u ≠ p s := fun q => by rw [fstO_iff.2 q] at hf; cases hf
        obtain ⟨u, hu⟩ := Classical.not_forall.1 this
        obtain ⟨q1, q2⟩ := Classical.not_imp.1 hu
        exact ⟨u, q1, Classical.not_not.1 q2⟩
      obtain ⟨u, hu, hus⟩ := hex
      have hsome : mget mp ((p s : Nat) : Int) = some ((fo p s : Nat) : Int) := by
        rw [← hus, h3 u hu, fo_iff.2 hus]
      refine ⟨(mp, out ++ [((fo p s : Nat) : Int)]), hmain _ hsome h3 (fun t ht hu' => h4 t ht fun u hu'' => hu' u (by omega)), ?_⟩
      dsimp only
      rw [g1, cond_true, g0, gd_true rfl, gd_true rfl, Int.toNat_natCast, q1.2 s hs, hsome, Option.isSome_some, Bool.not_true, cond_false, Option.getD_some, g2, gd_true rfl, hw]
end
end Go.Ab.T

/- The parts in order, and the least machine: least.order, least.Least. -/
namespace Go.Ab.T
open Go Go.Ab
set_option linter.unusedVariables false
set_option linter.unusedSimpArgs false

def idc (b : Nat) : Int := (b : Int)
theorem idc_rep (f : Nat) : isR idc f := fun b hb h => by unfold idc at h; omega

/-- of each part found: a state, and its number -/
structure Ord (k : Nat) (p : Nat → Nat) (q : Q) (S : List Nat) (mp : List (Int × Int)) : Prop where
  len : S.length = q.length
  st : ∀ j, j < q.length → S.getD j 0 < k ∧ p (S.getD j 0) = qs q j
  num : ∀ j, j < q.length → mget mp ((qs q j : Nat) : Int) = some (j : Int)
  non : ∀ P : Nat, (∀ x ∈ q, x.1 ≠ P) → mget mp (P : Int) = none

theorem Ord.new {k : Nat} {p : Nat → Nat} {q : Q} {S : List Nat} {mp : List (Int × Int)} (h : Ord k p q S mp) {s : Nat} (hs : s < k) (w : List Nat) (hn : ∀ x ∈ q, x.1 ≠ p s) :
    Ord k p (q ++ [(p s, w)]) (S ++ [s]) (mset mp ((p s : Nat) : Int) (S.length : Int)) := by
  have hlen := h.len
  refine ⟨by simp [hlen], fun j hj => ?_, fun j hj => ?_, fun P hP => ?_⟩
  · rw [snoc_getD]
    by_cases hjl : j < q.length
    · rw [if_pos (by omega), qs_old hjl]; exact h.st j hjl
    · have : j = q.length := by simp at hj; omega
      subst this
      rw [if_neg (by omega), if_pos (by omega), qs_new]; exact ⟨hs, rfl⟩
  · rw [mget_mset']
    by_cases hjl : j < q.length
    · rw [qs_old hjl]
      have h1 := hn _ (q_mem hjl)
      simp only at h1
      rw [if_neg (by omega)]; exact h.num j hjl
    · have : j = q.length := by simp at hj; omega
      subst this
      rw [qs_new, if_pos rfl, hlen]
  · rw [mget_mset']
    have h1 : p s ≠ P := hP (p s, w) (by simp)
    rw [if_neg (by omega)]
    exact h.non P fun x hx => hP x (List.mem_append_left _ hx)

section
variable {R : Type} {C : List Int} {N : List (List Int)} {E : List Bool} {k m : Nat} {p r : Nat → Nat}

theorem stp_id (h : Mch C N E k m) (hp : Pts C N E k p r) : Stp (dq C N p r) (Gq C N p) idc k :=
  stp_q h hp idc fun P b f _ _ _ hc => by unfold idc at hc; rw [show f = b by omega]

theorem o7_ok (h : Mch C N E k m) (hp : Pts C N E k p r) (kf k0 : Nat) (hk : 300 < k0) (l : List Int) (hl : PL k p l) (i : Nat) (q : Q) (S : List Nat) (mp : List (Int × Int)) (hb : Bg (dq C N p r) (Gq C N p) idc k i 0 q) (ho : Ord k p q S mp) (hi : i < q.length)
    (Ke : (List Int) → Int → (List Int) → (List (List Int)) → (List Bool) → (List Int) → (List (Int × Int)) → Option R) (T : Option R)
    (hT : ∀ (q' : Q) (S' : List Nat) (mp' : List (Int × Int)), Bg (dq C N p r) (Gq C N p) idc k i 256 q' → Ord k p q' S' mp' → i < q'.length → Ke l (i : Int) C N E (castF S') mp' = T) :
    least_order_l7 kf k0 l (i : Int) C N E Ke 0 (castF S) mp = T := by
  have hN := h.nl; have hk2 := h.k2
  refine loop_all (fun kk b (acc : Q × List Nat × List (Int × Int)) => least_order_l7 kf kk l (i : Int) C N E Ke (b : Int) (castF acc.2.1) acc.2.2) T 256 0
    (fun b acc => Bg (dq C N p r) (Gq C N p) idc k i b acc.1 ∧ Ord k p acc.1 acc.2.1 acc.2.2 ∧ i < acc.1.length) ?_ ?_ 256 k0 0 (q, S, mp) (by omega) (by omega) ⟨hb, ho, hi⟩
  · rintro kk ⟨q', S', mp'⟩ ⟨h1, h2, h3⟩
    rw [least_order_l7]
    unfold least_order_l7_b
    rw [decide_eq_false (show ¬ (((256 : Nat) : Int) < 256) by omega), cond_false]
    exact hT q' S' mp' h1 h2 h3
  · rintro kk b ⟨q', S', mp'⟩ _ hb ⟨h1, h2, h3⟩ hrest
    simp only at h1 h2 h3
    have hsz := h1.size
    obtain ⟨s1, s2⟩ := h2.st i h3
    have hlen := h2.len
    generalize hs : S'.getD i 0 = s at s1 s2
    obtain ⟨c1, c2⟩ := h.cls_lt b hb
    have hdl : dl C N s b = ((N.getD s []).getD (C.getD b 0).toNat 0).toNat := rfl
    obtain ⟨t1, t2⟩ := h.row_lt s1 c1
    rw [← hdl] at t1 t2
    have hrow := h.row s s1
    have hdq : dq C N p r (qs q' i) b = p (dl C N s b) := by rw [← s2]; exact dq_p h hp s1 hb
    generalize hcc : (C.getD b 0).toNat = cc at c1 c2 t2
    generalize htt : dl C N s b = t at t1 t2 hdq
    have hw := wi_1 b (show b < 4000000000000000000 by omega)
    rw [least_order_l7]
    unfold least_order_l7_b
    dsimp only
    have g1 : decide ((i : Int) < ((castF S').length : Int)) = true := decide_eq_true (by rw [castF_len]; omega)
    rw [decide_eq_true (show (b : Int) < 256 by omega), cond_true, gdd (by omega), g1, gd_true rfl, Int.toNat_natCast, castF_getD, hs, gdd (by omega), gdd (by omega), gdd (by omega), gd_true rfl, Int.toNat_natCast, Int.toNat_natCast, c2, gdd (by omega), gdd (by omega), Int.toNat_natCast, t2, gdd (by omega), gdd (by have := hl.1; omega), Int.toNat_natCast, hl.2 t t1]
    by_cases hm : ∃ x ∈ q', x.1 = p t
    · obtain ⟨x, hx, he⟩ := hm
      obtain ⟨j, hj, rfl⟩ := q_of_mem hx
      simp only at he
      have hsome : mget mp' ((p t : Nat) : Int) = some (j : Int) := by rw [← he]; exact h2.num j hj
      rw [hsome, Option.isSome_some, Bool.not_true, cond_false, hw]
      exact hrest (q', S', mp') ⟨h1.old (stp_id h hp) h3 hb (idc_rep b) ⟨_, hx, by simp only; rw [hdq]; exact he⟩, h2, h3⟩
    · have hm' : ∀ x ∈ q', x.1 ≠ p t := fun x hx he => hm ⟨x, hx, he⟩
      rw [h2.non _ hm', Option.isSome_none, Bool.not_false, cond_true, gdd (by omega), gdd (by have := hl.1; omega), gdd (by rw [small_eq, castF_len]; simp; omega), hw, castF_len]
      have hcs : castF S' ++ [(t : Int)] = castF (S' ++ [t]) := by unfold castF; simp
      rw [hcs]
      have hnew := h1.new (stp_id h hp) h3 hb (idc_rep b) (by rw [hdq]; exact hm')
      rw [hdq] at hnew
      exact hrest (_, S' ++ [t], _) ⟨hnew, h2.new t1 _ hm', by simp only; rw [List.length_append]; omega⟩

theorem order_ok (h : Mch C N E k m) (hp : Pts C N E k p r) (kf : Nat) (hkf : 10000 ≤ kf) (l : List Int) (hl : PL k p l) (K : List Int → List (Int × Int) → Option R) (T : Option R)
    (hT : ∀ (q : Q) (S : List Nat) (mp : List (Int × Int)), Bg (dq C N p r) (Gq C N p) idc k q.length 0 q → Ord k p q S mp → K (castF S) mp = T) : least_order kf C N E l K = T := by
  unfold least_order least_order_b
  have hk1 := h.k1; have hk2 := h.k2
  have hl0 := hl.1
  rw [gdd (by omega), hl.2 0 (by omega), hp.zero]
  refine loop_meas (fun kk (acc : Nat × Q × List Nat × List (Int × Int)) => least_order_l4 kf kk (fun (v28 : List Int) (v29 : List (Int × Int)) => K v28 v29) l (acc.1 : Int) C N E (castF acc.2.2.1) acc.2.2.2) T (fun acc => k + 1 - acc.1) 1000
    (fun acc => Bg (dq C N p r) (Gq C N p) idc k acc.1 0 acc.2.1 ∧ Ord k p acc.2.1 acc.2.2.1 acc.2.2.2) ?_ kf (0, [(0, [])], [0], mset ([] : List (Int × Int)) 0 0) (by simp only; omega)
    ⟨Bg.start (stp_id h hp), ⟨rfl, fun j hj => ?_, fun j hj => ?_, fun P hP => ?_⟩⟩
  · rintro kk ⟨i, q, S, mp⟩ hB ⟨h1, h2⟩ hrest
    simp only at h1 h2 hrest
    have hsz := h1.size
    have hlen := h2.len
    have hple := h1.ple
    rw [least_order_l4]
    unfold least_order_l4_b
    dsimp only
    by_cases hi : i < q.length
    · rw [castF_len, decide_eq_true (show (i : Int) < (S.length : Int) by omega), cond_true]
      refine o7_ok h hp kf kk (by omega) l hl i q S mp h1 h2 hi _ T fun q' S' mp' z1 z2 z3 => ?_
      rw [wi_1 i (by omega)]
      exact hrest (i + 1, q', S', mp') ⟨z1.next z3, z2⟩ (by simp only; omega)
    · rw [castF_len, decide_eq_false (show ¬ ((i : Int) < (S.length : Int)) by omega), cond_false]
      have : i = q.length := by omega
      subst this
      exact hT q S mp h1 h2
  · have : j = 0 := by simp at hj; exact hj
    subst this
    exact ⟨by show 0 < k; omega, hp.zero⟩
  · have : j = 0 := by simp at hj; exact hj
    subst this
    rfl
  · have h0 : (0 : Nat) ≠ P := hP (0, []) (by simp)
    show mget (mset ([] : List (Int × Int)) 0 0) (P : Int) = none
    rw [mget_mset', if_neg (by omega)]; rfl
end

/-! ### the ways of classes -/
def FL {α : Type} [DecidableEq α] (σ : Nat → α) (c : Nat) : List Nat := (List.range c).filter (fstO σ)
section
variable {α : Type} [DecidableEq α]
theorem FL_succ (σ : Nat → α) (c : Nat) : FL σ (c + 1) = FL σ c ++ (if fstO σ c = true then [c] else []) := by
  unfold FL
  rw [List.range_succ, List.filter_append]
  congr 1
  simp only [List.filter_cons, List.filter_nil]
theorem FL_len (σ : Nat → α) (c : Nat) : (FL σ c).length = nf σ c := by unfold FL nf; rw [List.countP_eq_length_filter]
theorem FL_getD (σ : Nat → α) : ∀ c f, f < c → fstO σ f = true → (FL σ c).getD (nf σ f) 0 = f
  | 0, f, hf, _ => by omega
  | c + 1, f, hf, hfs => by
    rw [FL_succ]
    by_cases hfc : f = c
    · subst hfc
      rw [if_pos hfs, snoc_getD, FL_len, if_neg (by omega), if_pos rfl]
    · have h1 := FL_getD σ c f (by omega) hfs
      have h2 := nf_lt (c := c) hfs (by omega)
      cases fstO σ c with
      | true => rw [if_pos rfl, snoc_getD, FL_len, if_pos h2, h1]
      | false => rw [if_neg (by simp), List.append_nil, h1]
theorem FL_mem {σ : Nat → α} {c i : Nat} (h : i < (FL σ c).length) : (FL σ c).getD i 0 < c ∧ fstO σ ((FL σ c).getD i 0) = true := by
  have := getD_mem (FL σ c) i h 0
  unfold FL at this
  rw [List.mem_filter, List.mem_range] at this
  exact this
end

section
variable {R : Type}

theorem equal_ok (kf : Nat) (a b : List Nat) (hl : a.length = b.length) (hs : a.length + 10 < kf) (hb : a.length ≤ 100000) (K : Bool → Option R) : slices_Equal_int_int kf (castF a) (castF b) K = K (decide (a = b)) := by
  unfold slices_Equal_int_int slices_Equal_int_int_b
  rw [castF_len, castF_len, hl, decide_eq_true rfl, Bool.not_true, cond_false]
  refine loop_inv (fun kk i (_ : Unit) => slices_Equal_int_int_l4 kf kk (castF a) (castF b) (b.length : Int) (fun (v7 : Bool) => K v7) (K true) (i : Int)) _ b.length 0 (fun i _ => ∀ j, j < i → a.getD j 0 = b.getD j 0) ?_ ?_ b.length kf 0 () (by omega) (by omega) (by intro j hj; omega)
  · intro kk _ hall
    rw [slices_Equal_int_int_l4]
    unfold slices_Equal_int_int_l4_b
    rw [decide_eq_false (show ¬ ((b.length : Int) < (b.length : Int)) by omega), cond_false]
    have : a = b := by
      apply List.ext_getElem hl
      intro i h1 h2
      have := hall i h2
      rwa [List.getD_eq_getElem?_getD, List.getD_eq_getElem?_getD, List.getElem?_eq_getElem h1, List.getElem?_eq_getElem h2] at this
    rw [decide_eq_true this]
  · intro kk i _ _ hi hall
    have g0 : decide (0 ≤ (i : Int)) = true := decide_eq_true (by omega)
    have g1 : decide ((i : Int) < ((castF a).length : Int)) = true := decide_eq_true (by rw [castF_len]; omega)
    have g2 : decide ((i : Int) < ((castF b).length : Int)) = true := decide_eq_true (by rw [castF_len]; omega)
    by_cases he : a.getD i 0 = b.getD i 0
    · left
      refine ⟨(), fun j hj => ?_, ?_⟩
      · by_cases hji : j = i
        · subst hji; exact he
        · exact hall j (by omega)
      · rw [slices_Equal_int_int_l4]
        unfold slices_Equal_int_int_l4_b
        rw [decide_eq_true (show (i : Int) < (b.length : Int) by omega), cond_true, g0, gd_true rfl, g1, gd_true rfl, gd_true rfl, g2, gd_true rfl, Int.toNat_natCast, castF_getD, castF_getD, he, decide_eq_true rfl, Bool.not_true, cond_false, wi_1 i (by omega)]
    · right
      have hne : a ≠ b := fun h => he (by rw [h])
      rw [slices_Equal_int_int_l4]
      unfold slices_Equal_int_int_l4_b
      rw [decide_eq_true (show (i : Int) < (b.length : Int) by omega), cond_true, g0, gd_true rfl, g1, gd_true rfl, gd_true rfl, g2, gd_true rfl, Int.toNat_natCast, castF_getD, castF_getD, decide_eq_false (show ¬ (((a.getD i 0 : Nat) : Int) = ((b.getD i 0 : Nat) : Int)) by omega), Bool.not_false, cond_true, decide_eq_false hne]

/-- the ways so far -/
def waysL (σ : Nat → List Nat) (c : Nat) : List (List Int) := (FL σ c).map fun f => castF (σ f)
theorem waysL_len (σ : Nat → List Nat) (c : Nat) : (waysL σ c).length = nf σ c := by unfold waysL; rw [List.length_map, FL_len]
theorem waysL_getD (σ : Nat → List Nat) (c i : Nat) (h : i < nf σ c) : (waysL σ c).getD i [] = castF (σ ((FL σ c).getD i 0)) := by
  unfold waysL
  rw [← FL_len] at h
  rw [List.getD_eq_getElem?_getD, List.getD_eq_getElem?_getD, List.getElem?_map, List.getElem?_eq_getElem h]
  rfl

theorem indexf_ok (kf : Nat) (hkf : 3000 ≤ kf) (σ : Nat → List Nat) (n c : Nat) (hc : c < 256) (hn : n ≤ 2000) (hσ : ∀ b, b < 256 → (σ b).length = n) (K : Int → List Int → Option R) :
    slices_IndexFunc_int_int kf (waysL σ c) (castF (σ c)) K = K (if fstO σ c = true then -1 else ((ix σ c : Nat) : Int)) (castF (σ c)) := by
  unfold slices_IndexFunc_int_int slices_IndexFunc_int_int_b
  have hnf := nf_le σ c
  rw [waysL_len]
  refine loop_inv (fun kk i (_ : Unit) => slices_IndexFunc_int_int_l2 kf kk (waysL σ c) ((nf σ c : Nat) : Int) (fun (v9 : Int) (v10 : List Int) => K v9 v10) (fun (v11 : List Int) => K (-1) v11) (i : Int) (castF (σ c))) _ (nf σ c) 0
    (fun i _ => ∀ j, j < i → σ ((FL σ c).getD j 0) ≠ σ c) ?_ ?_ (nf σ c) kf 0 () (by omega) (by omega) (by intro j hj; omega)
  · intro kk _ hno
    have hf : fstO σ c = true := by
      rw [fstO_iff]
      intro u hu he
      obtain ⟨a1, a2, a3⟩ := fo_spec σ u
      have h1 := nf_lt (c := c) a2 (by omega)
      have h2 := FL_getD σ c (fo σ u) (by omega) a2
      exact hno _ h1 (by rw [h2, a3, he])
    rw [slices_IndexFunc_int_int_l2]
    unfold slices_IndexFunc_int_int_l2_b
    rw [decide_eq_false (show ¬ (((nf σ c : Nat) : Int) < ((nf σ c : Nat) : Int)) by omega), cond_false, if_pos hf]
  · intro kk i _ _ hi hno
    obtain ⟨f1, f2⟩ := FL_mem (σ := σ) (c := c) (i := i) (by rw [FL_len]; exact hi)
    have g0 : decide (0 ≤ (i : Int)) = true := decide_eq_true (by omega)
    have g1 : decide ((i : Int) < ((waysL σ c).length : Int)) = true := decide_eq_true (by rw [waysL_len]; omega)
    have hidx : ix σ ((FL σ c).getD i 0) = i := by
      rw [ix_fst f2]
      -- the i-th first one has i first ones ahead of it
      have key : ∀ c i, i < (FL σ c).length → nf σ ((FL σ c).getD i 0) = i := by
        intro c
        induction c with
        | zero => intro i hi; simp [FL] at hi
        | succ c ih =>
          intro i hi
          rw [FL_succ] at hi ⊢
          cases hfc : fstO σ c with
          | true =>
            rw [hfc, if_pos rfl] at hi
            rw [if_pos rfl, snoc_getD]
            by_cases hil : i < (FL σ c).length
            · rw [if_pos hil]; exact ih i hil
            · have : i = (FL σ c).length := by simp at hi; omega
              rw [if_neg hil, if_pos this, this, FL_len]
          | false =>
            rw [hfc] at hi
            rw [if_neg (by simp), List.append_nil] at hi ⊢
            exact ih i hi
      exact key c i (by rw [FL_len]; exact hi)
    by_cases he : σ ((FL σ c).getD i 0) = σ c
    · right
      have hnf : ¬ fstO σ c = true := fun q => fstO_iff.1 q _ f1 he
      have hix : ix σ c = i := by rw [← hidx, ix_iff]; exact he.symm
      rw [slices_IndexFunc_int_int_l2]
      unfold slices_IndexFunc_int_int_l2_b least_Least_1 least_Least_1_b
      rw [decide_eq_true (show (i : Int) < ((nf σ c : Nat) : Int) by omega), cond_true, g0, gd_true rfl, g1, gd_true rfl, Int.toNat_natCast, waysL_getD σ c i hi, equal_ok kf _ _ (by rw [hσ _ (by omega), hσ _ (by omega)]) (by rw [hσ _ (by omega)]; omega) (by rw [hσ _ (by omega)]; omega), decide_eq_true he]
      dsimp only
      rw [cond_true, if_neg hnf, hix]
    · left
      refine ⟨(), fun j hj => ?_, ?_⟩
      · by_cases hji : j = i
        · subst hji; exact he
        · exact hno j (by omega)
      · rw [slices_IndexFunc_int_int_l2]
        unfold slices_IndexFunc_int_int_l2_b least_Least_1 least_Least_1_b
        rw [decide_eq_true (show (i : Int) < ((nf σ c : Nat) : Int) by omega), cond_true, g0, gd_true rfl, g1, gd_true rfl, Int.toNat_natCast, waysL_getD σ c i hi, equal_ok kf _ _ (by rw [hσ _ (by omega), hσ _ (by omega)]) (by rw [hσ _ (by omega)]; omega) (by rw [hσ _ (by omega)]; omega), decide_eq_false he]
        dsimp only
        rw [cond_false, wi_1 i (by omega)]
end
end Go.Ab.T

/- The least machine: least.Least comes to the language's own form. -/
namespace Go.Ab.T
open Go Go.Ab
set_option linter.unusedVariables false
set_option linter.unusedSimpArgs false

/-- where the i-th part leads -/
def JOk (C : List Int) (N : List (List Int)) (p r : Nat → Nat) (q : Q) (J : Nat → Nat → Nat) : Prop := ∀ i b, i < q.length → b < 256 → J i b < q.length ∧ qs q (J i b) = dq C N p r (qs q i) b
def wayN (q : Q) (J : Nat → Nat → Nat) (b : Nat) : List Nat := (List.range q.length).map fun i => J i b
theorem wayN_len (q : Q) (J : Nat → Nat → Nat) (b : Nat) : (wayN q J b).length = q.length := by unfold wayN; simp
theorem wayN_getD (q : Q) (J : Nat → Nat → Nat) (b i : Nat) (h : i < q.length) : (wayN q J b).getD i 0 = J i b := by
  unfold wayN
  rw [List.getD_eq_getElem?_getD, List.getElem?_map, List.getElem?_range h]; rfl
theorem wayN_eq {q : Q} {J : Nat → Nat → Nat} {b b' : Nat} : wayN q J b = wayN q J b' ↔ ∀ i, i < q.length → J i b = J i b' := by
  constructor
  · intro h i hi
    have : (wayN q J b).getD i 0 = (wayN q J b').getD i 0 := by rw [h]
    rwa [wayN_getD q J b i hi, wayN_getD q J b' i hi] at this
  · intro h
    unfold wayN
    exact List.map_congr_left fun i hi => h i (List.mem_range.1 hi)

section
variable {R : Type} {C : List Int} {N : List (List Int)} {E : List Bool} {k m : Nat} {p r : Nat → Nat}

theorem J_ex {q : Q} (hq : Bg (dq C N p r) (Gq C N p) idc k q.length 0 q) : ∃ J, JOk C N p r q J := by
  have : ∀ x : Nat × Nat, ∃ j, x.1 < q.length → x.2 < 256 → j < q.length ∧ qs q j = dq C N p r (qs q x.1) x.2 := by
    rintro ⟨i, b⟩
    by_cases hi : i < q.length
    · by_cases hb : b < 256
      · obtain ⟨x, hx, h1, _⟩ := hq.done i hi b hb
        obtain ⟨j, hj, rfl⟩ := q_of_mem hx
        exact ⟨j, fun _ _ => ⟨hj, h1⟩⟩
      · exact ⟨0, fun _ h => absurd h hb⟩
    · exact ⟨0, fun h => absurd h hi⟩
  obtain ⟨f, hf⟩ := Classical.axiomOfChoice this
  exact ⟨fun i b => f (i, b), fun i b hi hb => hf (i, b) hi hb⟩

/-- the columns' numbers, by first bytes -/
theorem laid_of (h : Mch C N E k m) (hp : Pts C N E k p r) {cl : Nat → Int} {q : Q} (hq : Bg (dq C N p r) (Gq C N p) cl k q.length 0 q) {J : Nat → Nat → Nat} (hJ : JOk C N p r q J) {C' : List Int} {N' : List (List Int)} {E' : List Bool}
    (hC : C'.length = 256 ∧ ∀ b, b < 256 → C'.getD b 0 = ((ix (wayN q J) b : Nat) : Int)) (hN : N'.length = q.length)
    (hrow : ∀ i, i < q.length → (N'.getD i []).length = nf (wayN q J) 256 ∧ ∀ f, f < 256 → fstO (wayN q J) f = true → (N'.getD i []).getD (nf (wayN q J) f) 0 = ((J i f : Nat) : Int))
    (hE : E'.length = q.length) (hends : ∀ i, i < q.length → en E' i = en E (r (qs q i))) : Laid C N E p r q C' N' E' (nf (wayN q J) 256) := by
  obtain ⟨c1, c2⟩ := hC
  generalize hσ : wayN q J = σ at *
  have hce : ∀ b b', b < 256 → b' < 256 → (C'.getD b 0 = C'.getD b' 0 ↔ σ b = σ b') := by
    intro b b' hb hb'
    rw [c2 b hb, c2 b' hb', ← ix_iff (σ := σ)]
    constructor
    · intro h; omega
    · intro h; rw [h]
  have hrep : ∀ b, b < 256 → repB C' b = fstO σ b := by
    intro b hb
    rw [Bool.eq_iff_iff, repB_iff, fstO_iff]
    constructor
    · intro hr u hu he; exact hr u hu ((hce u b (by omega) hb).2 he)
    · intro hr u hu he; exact hr u hu ((hce u b (by omega) hb).1 he)
  refine ⟨c1, fun b hb => ⟨_, ix_lt hb, c2 b hb⟩, fun a ha => ?_, nf_le _ _, fun b b' hb hb' => ?_, fun b hb hr => ?_, hN, fun i hi => ?_, hE, hends⟩
  · rw [← FL_len] at ha
    obtain ⟨f1, f2⟩ := FL_mem ha
    refine ⟨_, f1, ?_⟩
    rw [c2 _ f1, ix_fst f2]
    congr 1
    have key : ∀ c i, i < (FL σ c).length → nf σ ((FL σ c).getD i 0) = i := by
      intro c
      induction c with
      | zero => intro i hi; simp [FL] at hi
      | succ c ih =>
        intro i hi
        rw [FL_succ] at hi ⊢
        cases hfc : fstO σ c with
        | true =>
          rw [hfc, if_pos rfl] at hi
          rw [if_pos rfl, snoc_getD]
          by_cases hil : i < (FL σ c).length
          · rw [if_pos hil]; exact ih i hil
          · have : i = (FL σ c).length := by simp at hi; omega
            rw [if_neg hil, if_pos this, this, FL_len]
        | false =>
          rw [hfc] at hi
          rw [if_neg (by simp), List.append_nil] at hi ⊢
          exact ih i hi
    exact key 256 a ha
  · rw [hce b b' hb hb', ← hσ, wayN_eq]
    constructor
    · intro he i hi
      rw [← (hJ i b hi hb).2, ← (hJ i b' hi hb').2, he i hi]
    · intro he i hi
      exact hq.inj_iff (hJ i b hi hb).1 (hJ i b' hi hb').1 (by rw [(hJ i b hi hb).2, (hJ i b' hi hb').2, he i hi])
  · have hf : fstO σ b = true := by rw [← hrep b hb]; exact repB_iff.2 hr
    rw [c2 b hb, ix_fst hf]
    unfold nf
    congr 1
    apply List.countP_congr
    intro x hx
    rw [hrep x (by have := List.mem_range.1 hx; omega)]
  · obtain ⟨r1, r2⟩ := hrow i hi
    refine ⟨r1, fun b hb => ?_⟩
    obtain ⟨f1, f2, f3⟩ := fo_spec σ b
    have h1 := r2 (fo σ b) (by omega) f2
    have h2 : J i (fo σ b) = J i b := by
      rw [← hσ] at f3
      have := wayN_eq.1 f3 i hi
      rw [hσ] at this
      exact this
    refine ⟨J i b, (hJ i b hi hb).1, ?_, (hJ i b hi hb).2⟩
    rw [c2 b hb, Int.toNat_natCast, ← h2]
    exact h1

theorem nf_cls (h : Mch C N E k m) : nf (fun b => C.getD b 0) 256 ≤ m := by
  rw [← FL_len]
  have hn : ((FL (fun b => C.getD b 0) 256).map fun b => (C.getD b 0).toNat).Nodup := by
    unfold List.Nodup
    rw [List.pairwise_map]
    have hlt : (FL (fun b => C.getD b 0) 256).Pairwise (· < ·) := List.Pairwise.filter _ List.pairwise_lt_range
    refine List.Pairwise.imp_of_mem ?_ hlt
    intro a b ha hb hab he
    unfold FL at ha hb
    rw [List.mem_filter, List.mem_range] at ha hb
    have h1 := (h.cls_lt a ha.1).2
    have h2 := (h.cls_lt b hb.1).2
    exact fstO_iff.1 hb.2 a hab (by rw [h1, h2, he])
  have := nodup_len _ (List.range m) hn (fun x hx => by
    rw [List.mem_map] at hx
    obtain ⟨b, hb, rfl⟩ := hx
    unfold FL at hb
    rw [List.mem_filter, List.mem_range] at hb
    exact List.mem_range.2 (h.cls_lt b hb.1).1)
  rwa [List.length_map, List.length_range] at this
theorem nf_way (h : Mch C N E k m) (hp : Pts C N E k p r) {cl : Nat → Int} {q : Q} (hq : Bg (dq C N p r) (Gq C N p) cl k q.length 0 q) {J : Nat → Nat → Nat} (hJ : JOk C N p r q J) : nf (wayN q J) 256 ≤ m := by
  refine Nat.le_trans ?_ (nf_cls h)
  refine (nf_refine (σ := wayN q J) (τ := fun b => C.getD b 0) fun b b' hb hb' he => ?_).1
  rw [wayN_eq]
  intro i hi
  refine hq.inj_iff (hJ i b hi hb).1 (hJ i b' hi hb').1 ?_
  rw [(hJ i b hi hb).2, (hJ i b' hi hb').2]
  unfold dq dl
  rw [he]

theorem L12_ok (h : Mch C N E k m) (hp : Pts C N E k p r) (kf k0 : Nat) (l : List Int) (hl : PL k p l) (q : Q) (S : List Nat) (mp : List (Int × Int)) (hq : Bg (dq C N p r) (Gq C N p) idc k q.length 0 q) (ho : Ord k p q S mp) (hk : k + 2 < k0) {J : Nat → Nat → Nat} (hJ : JOk C N p r q J) (b : Nat) (hb : b < 256) (v29 v33 : List Int) (v34 v35 : List (List Int)) (v36 : List Bool) (v37 : List (List Int)) (v38 : List Bool)
    (Ke : Int → Int → (List Int) → (List (List Int)) → (List Bool) → (List Int) → (List Int) → (List Int) → (List (Int × Int)) → (List Int) → (List (List Int)) → (List (List Int)) → (List Bool) → (List (List Int)) → (List Bool) → (List Int) → Option R) :
    least_Least_l12 kf k0 (b : Int) (b : Int) ((castF S).length : Int) C N E v29 l (castF S) mp v33 v34 v35 v36 v37 v38 Ke 0 ([] : List Int) = Ke (b : Int) (b : Int) C N E v29 l (castF S) mp v33 v34 v35 v36 v37 v38 (castF (wayN q J b)) := by
  have hN := h.nl; have hk2 := h.k2; have hsz := hq.size; have hlen := ho.len
  refine loop_inv (fun kk i (acc : List Int) => least_Least_l12 kf kk (b : Int) (b : Int) ((castF S).length : Int) C N E v29 l (castF S) mp v33 v34 v35 v36 v37 v38 Ke (i : Int) acc) _ q.length 0
    (fun i acc => acc = castF ((List.range i).map fun i => J i b)) ?_ ?_ q.length k0 0 [] (by omega) (by omega) rfl
  · rintro kk acc rfl
    rw [least_Least_l12]
    unfold least_Least_l12_b
    rw [castF_len, decide_eq_false (show ¬ ((q.length : Int) < (S.length : Int)) by omega), cond_false]
    rfl
  · rintro kk i acc _ hi rfl
    left
    obtain ⟨s1, s2⟩ := ho.st i hi
    generalize hs : S.getD i 0 = s at s1 s2
    obtain ⟨c1, c2⟩ := h.cls_lt b hb
    have hdl : dl C N s b = ((N.getD s []).getD (C.getD b 0).toNat 0).toNat := rfl
    obtain ⟨t1, t2⟩ := h.row_lt s1 c1
    rw [← hdl] at t1 t2
    have hrow := h.row s s1
    have hdq : dq C N p r (qs q i) b = p (dl C N s b) := by rw [← s2]; exact dq_p h hp s1 hb
    obtain ⟨j1, j2⟩ := hJ i b hi hb
    generalize hcc : (C.getD b 0).toNat = cc at c1 c2 t2
    generalize htt : dl C N s b = t at t1 t2 hdq
    have hnum : mget mp ((p t : Nat) : Int) = some ((J i b : Nat) : Int) := by
      rw [← hdq, ← j2]; exact ho.num _ j1
    have hcs : castF ((List.range i).map fun i => J i b) ++ [((J i b : Nat) : Int)] = castF ((List.range (i + 1)).map fun i => J i b) := by
      unfold castF; rw [List.range_succ]; simp
    refine ⟨_, rfl, ?_⟩
    have g1 : decide ((i : Int) < ((castF S).length : Int)) = true := decide_eq_true (by rw [castF_len]; omega)
    rw [least_Least_l12]
    unfold least_Least_l12_b
    rw [g1, cond_true, gdd (by omega), gd_true rfl, Int.toNat_natCast, castF_getD, hs, gdd (by omega), gdd (by omega), gdd (by omega), gdd (by omega), Int.toNat_natCast, Int.toNat_natCast, c2, gdd (by omega), gdd (by omega), Int.toNat_natCast, t2, gdd (by omega), gdd (by have := hl.1; omega), Int.toNat_natCast, hl.2 t t1, hnum, Option.getD_some, gdd (by rw [small_eq, castF_len]; simp; omega), hcs, wi_1 i (by omega)]

theorem L8_ok (h : Mch C N E k m) (hp : Pts C N E k p r) (kf : Nat) (hkf : 20000 ≤ kf) (l : List Int) (hl : PL k p l) (q : Q) (S : List Nat) (mp : List (Int × Int)) (hq : Bg (dq C N p r) (Gq C N p) idc k q.length 0 q) (ho : Ord k p q S mp) {J : Nat → Nat → Nat} (hJ : JOk C N p r q J) (v12 : List Int) (v18 : List (List Int)) (v19 : List Bool) (v20 : List (List Int)) (v21 : List Bool)
    (Ke : (List Int) → (List (List Int)) → (List Bool) → (List Int) → (List Int) → (List Int) → (List (List Int)) → (List (List Int)) → (List Bool) → (List (List Int)) → (List Bool) → Option R) (T : Option R)
    (hT : ∀ cl : List Int, (cl.length = 256 ∧ ∀ b, b < 256 → cl.getD b 0 = ((ix (wayN q J) b : Nat) : Int)) → Ke C N E v12 (castF S) cl (waysL (wayN q J) 256) v18 v19 v20 v21 = T) :
    least_Least_l8 kf kf Ke 0 C N E v12 l (castF S) mp (List.replicate 256 (0 : Int)) ([] : List (List Int)) v18 v19 v20 v21 = T := by
  have hk2 := h.k2; have hsz := hq.size
  refine loop_inv (fun kk b (acc : List Int) => least_Least_l8 kf kk Ke (b : Int) C N E v12 l (castF S) mp acc (waysL (wayN q J) b) v18 v19 v20 v21) T 256 3000
    (fun b acc => acc.length = 256 ∧ ∀ c, c < b → acc.getD c 0 = ((ix (wayN q J) c : Nat) : Int)) ?_ ?_ 256 kf 0 _ (by omega) (by omega) ⟨List.length_replicate, fun c hc => by omega⟩
  · rintro kk acc ⟨h1, h2⟩
    rw [least_Least_l8]
    unfold least_Least_l8_b
    rw [decide_eq_false (show ¬ (((256 : Nat) : Int) < 256) by omega), cond_false]
    exact hT acc ⟨h1, h2⟩
  · rintro kk b acc hB hb ⟨h1, h2⟩
    left
    have hnf := nf_le (wayN q J) b
    have hixb := ix_lt (σ := wayN q J) (show b < b + 1 by omega)
    have hnf1 := nf_le (wayN q J) (b + 1)
    have hw := wi_1 b (show b < 4000000000000000000 by omega)
    have hw8 : ∀ x : Nat, x < 256 → IntKind.u8.wrap (x : Int) = (x : Int) := fun x hx => by rw [IntKind.wrap_u8]; omega
    refine ⟨acc.set b ((ix (wayN q J) b : Nat) : Int), ⟨by rw [List.length_set]; exact h1, fun c hc => ?_⟩, ?_⟩
    · rw [getD_set']
      by_cases hbc : b = c
      · subst hbc; rw [if_pos ⟨rfl, by omega⟩]
      · rw [if_neg (fun q => hbc q.1)]; exact h2 c (by omega)
    · rw [least_Least_l8]
      unfold least_Least_l8_b
      rw [decide_eq_true (show (b : Int) < 256 by omega), cond_true, L12_ok h hp kf kk l hl q S mp hq ho (by omega) hJ b hb]
      dsimp only
      rw [indexf_ok kf (by omega) (wayN q J) q.length b hb (by omega) fun b _ => wayN_len q J b]
      cases hf : fstO (wayN q J) b with
      | true =>
        have hws : waysL (wayN q J) b ++ [castF (wayN q J b)] = waysL (wayN q J) (b + 1) := by
          unfold waysL; rw [FL_succ, hf]; simp
        rw [if_pos rfl, decide_eq_true (show (-1 : Int) < 0 by omega), cond_true, gdd (by rw [small_eq, waysL_len]; simp; omega), gdd (by omega), gdd (by omega), Int.toNat_natCast, waysL_len, hw8 _ (by omega), hw, hws, ix_fst hf]
      | false =>
        have hws : waysL (wayN q J) b = waysL (wayN q J) (b + 1) := by
          unfold waysL; rw [FL_succ, hf]; simp
        rw [if_neg (by simp), decide_eq_false (show ¬ (((ix (wayN q J) b : Nat) : Int) < 0) by omega), cond_false, gdd (by omega), gdd (by omega), Int.toNat_natCast, hw8 _ (by omega), hw, ← hws]

def rowN' (q : Q) (J : Nat → Nat → Nat) (i a : Nat) : List Nat := (List.range a).map fun a => J i ((FL (wayN q J) 256).getD a 0)

theorem L27_ok (kf k0 : Nat) (hk : 300 < k0) (q : Q) (hqn : q.length ≤ 2000) (J : Nat → Nat → Nat) (i : Nat) (hi : i < q.length) (v86 v87 v88 : Int) (v91 : List Int) (v92 : List (List Int)) (v93 : List Bool) (v94 v95 v98 : List Int) (v99 : List (List Int)) (v100 : List Bool) (v101 : List (List Int)) (v102 : List Bool)
    (Ke : Int → Int → Int → (List Int) → (List (List Int)) → (List Bool) → (List Int) → (List Int) → (List (List Int)) → (List Int) → (List Int) → (List (List Int)) → (List Bool) → (List (List Int)) → (List Bool) → Option R) :
    least_Least_l27 kf k0 (i : Int) v86 v87 v88 ((waysL (wayN q J) 256).length : Int) v91 v92 v93 v94 v95 (waysL (wayN q J) 256) v98 v99 v100 v101 v102 Ke 0 ([] : List Int) =
      Ke v86 v87 v88 v91 v92 v93 v94 v95 (waysL (wayN q J) 256) (castF (rowN' q J i (nf (wayN q J) 256))) v98 v99 v100 v101 v102 := by
  have hnf := nf_le (wayN q J) 256
  refine loop_inv (fun kk a (acc : List Int) => least_Least_l27 kf kk (i : Int) v86 v87 v88 ((waysL (wayN q J) 256).length : Int) v91 v92 v93 v94 v95 (waysL (wayN q J) 256) v98 v99 v100 v101 v102 Ke (a : Int) acc) _ (nf (wayN q J) 256) 0
    (fun a acc => acc = castF (rowN' q J i a)) ?_ ?_ (nf (wayN q J) 256) k0 0 [] (by omega) (by omega) rfl
  · rintro kk acc rfl
    rw [least_Least_l27]
    unfold least_Least_l27_b
    rw [waysL_len, decide_eq_false (show ¬ (((nf (wayN q J) 256 : Nat) : Int) < ((nf (wayN q J) 256 : Nat) : Int)) by omega), cond_false]
  · rintro kk a acc _ ha rfl
    left
    refine ⟨_, rfl, ?_⟩
    have g1 : decide ((a : Int) < ((waysL (wayN q J) 256).length : Int)) = true := decide_eq_true (by rw [waysL_len]; omega)
    have hcs : castF (rowN' q J i a) ++ [((J i ((FL (wayN q J) 256).getD a 0) : Nat) : Int)] = castF (rowN' q J i (a + 1)) := by
      unfold castF rowN'; rw [List.range_succ]; simp
    have hrl : (rowN' q J i a).length = a := by unfold rowN'; simp
    rw [least_Least_l27]
    unfold least_Least_l27_b
    rw [g1, cond_true, gdd (by omega), gd_true rfl, Int.toNat_natCast, Int.toNat_natCast, waysL_getD _ _ _ ha, castF_len, wayN_len, castF_getD, wayN_getD q J _ i hi, gdd (by omega), gdd (by omega), gdd (by rw [small_eq, castF_len]; simp; omega), hcs, wi_1 a (by omega)]

theorem pts_of (h : Mch C N E k m) (p : Nat → Nat) (h1 : ∀ s t, s < k → t < k → (p s = p t ↔ eqs C N E s t)) (h2 : ∀ s, s < k → p s < k) (h3 : p 0 = 0) : ∃ r, Pts C N E k p r := by
  have : ∀ P, ∃ r, (∃ s, s < k ∧ p s = P) → r < k ∧ p r = P := by
    intro P
    by_cases hP : ∃ s, s < k ∧ p s = P
    · obtain ⟨s, hs⟩ := hP
      exact ⟨s, fun _ => hs⟩
    · exact ⟨0, fun q => absurd q hP⟩
  obtain ⟨r, hr⟩ := Classical.axiomOfChoice this
  exact ⟨r, h1, h2, h3, fun s hs => hr (p s) ⟨s, hs, rfl⟩⟩

theorem least_ok (h : Mch C N E k m) (kf : Nat) (hkf : 20000 ≤ kf) (K : List Int → List (List Int) → List Bool → Option R) (T : Option R)
    (hT : ∀ (C' : List Int) (N' : List (List Int)) (E' : List Bool) (n' m' : Nat), Canon C' N' E' n' m' → Lang C N E C' N' E' → n' ≤ k → m' ≤ m → K C' N' E' = T) : least_Least kf C N E K = T := by
  unfold least_Least least_Least_b
  have hE := h.el; have hk2 := h.k2
  rw [may_ok h kf (by omega), Bool.not_true, cond_false]
  refine parts_ok h kf hkf _ T fun p l q1 q2 q3 q4 => ?_
  obtain ⟨r, hp⟩ := pts_of h p q2 q3 q4
  refine order_ok h hp kf (by omega) l q1 _ T fun q S mp hq ho => ?_
  obtain ⟨J, hJ⟩ := J_ex hq
  have hsz := hq.size
  have hlen := ho.len
  refine L8_ok h hp kf hkf l q1 q S mp hq ho hJ _ _ _ _ _ _ T fun cl hcl => ?_
  have hnf := nf_le (wayN q J) 256
  rw [castF_len]
  refine loop_inv (fun kk i (acc : List (List Int) × List Bool) => least_Least_l23 kf kk (fun (v118 : List Int) (v119 : List Int) (v120 : List (List Int)) (v121 : List Bool) (v122 : List (List Int)) (v123 : List Bool) => K v119 v122 v123) (S.length : Int) (i : Int) C N E (List.replicate 256 (0 : Int)) cl (waysL (wayN q J) 256) (castF S) ([] : List (List Int)) ([] : List Bool) acc.1 acc.2) T q.length 400
    (fun i acc => acc.1 = (List.range i).map (fun i => castF (rowN' q J i (nf (wayN q J) 256))) ∧ acc.2 = (List.range i).map fun i => E.getD (S.getD i 0) false) ?_ ?_ q.length kf 0 ([], []) (by omega) (by omega) ⟨rfl, rfl⟩
  · rintro kk ⟨N', E'⟩ ⟨h1, h2⟩
    simp only at h1 h2
    rw [least_Least_l23]
    unfold least_Least_l23_b
    rw [decide_eq_false (show ¬ ((q.length : Int) < (S.length : Int)) by omega), cond_false]
    dsimp only
    have hNi : ∀ i, i < q.length → N'.getD i [] = castF (rowN' q J i (nf (wayN q J) 256)) := by
      intro i hi
      rw [h1, List.getD_eq_getElem?_getD, List.getElem?_map, List.getElem?_range hi]; rfl
    have hEi : ∀ i, i < q.length → E'.getD i false = E.getD (S.getD i 0) false := by
      intro i hi
      rw [h2, List.getD_eq_getElem?_getD, List.getElem?_map, List.getElem?_range hi]; rfl
    have hlaid := laid_of h hp hq hJ (C' := cl) (N' := N') (E' := E') hcl (by rw [h1]; simp) (fun i hi => ⟨by rw [hNi i hi, castF_len]; unfold rowN'; simp, fun f hf hff => by
      have hlt := nf_lt (c := 256) hff hf
      rw [hNi i hi, castF_getD]
      unfold rowN'
      rw [List.getD_eq_getElem?_getD, List.getElem?_map, List.getElem?_range hlt]
      show ((J i ((FL (wayN q J) 256).getD (nf (wayN q J) f) 0) : Nat) : Int) = _
      rw [FL_getD _ 256 f hf hff]⟩) (by rw [h2]; simp) (fun i hi => by
      obtain ⟨s1, s2⟩ := ho.st i hi
      obtain ⟨r1, r2⟩ := hp.rep _ s1
      show E'.getD i false = _
      rw [hEi i hi, ← s2]
      exact ((hp.iff _ _ r1 s1).1 r2 [] fun b hb => (nomatch hb)).symm)
    obtain ⟨z1, z2⟩ := laid_canon h hp hq hlaid
    exact hT cl N' E' _ _ z1 z2 hsz (nf_way h hp hq hJ)
  · rintro kk i ⟨N', E'⟩ hB hi ⟨h1, h2⟩
    simp only at h1 h2
    left
    obtain ⟨s1, s2⟩ := ho.st i hi
    refine ⟨(N' ++ [castF (rowN' q J i (nf (wayN q J) 256))], E' ++ [E.getD (S.getD i 0) false]), ⟨by simp only; rw [h1, List.range_succ]; simp, by simp only; rw [h2, List.range_succ]; simp⟩, ?_⟩
    have hNl : N'.length = i := by rw [h1]; simp
    have hEl : E'.length = i := by rw [h2]; simp
    rw [least_Least_l23]
    unfold least_Least_l23_b
    rw [decide_eq_true (show (i : Int) < (S.length : Int) by omega), cond_true, gdd (by omega), gdd (by rw [castF_len]; omega), Int.toNat_natCast, castF_getD, L27_ok kf kk (by omega) q (by omega) J i hi]
    dsimp only
    rw [gdd (by rw [small_eq]; simp; omega), gdd (by omega), gdd (by omega), Int.toNat_natCast, gdd (by rw [small_eq]; simp; omega), wi_1 i (by omega)]
end
end Go.Ab.T

/- When two machines are one, and least.Is; what is done at the beginning. -/
namespace Go.Ab.T
open Go Go.Ab
set_option linter.unusedVariables false
set_option linter.unusedSimpArgs false

section
variable {R : Type}

theorem eqI_ok (kf : Nat) (a b : List Int) (hs : a.length + 10 < kf) (hb : a.length ≤ 100000) (K : Bool → Option R) : slices_Equal_int_int kf a b K = K (decide (a = b)) := by
  unfold slices_Equal_int_int slices_Equal_int_int_b
  by_cases hl : a.length = b.length
  rotate_left
  · have hne : a ≠ b := fun h => hl (by rw [h])
    rw [decide_eq_false (show ¬ ((a.length : Int) = (b.length : Int)) by omega), Bool.not_false, cond_true, decide_eq_false hne]
  rw [hl, decide_eq_true rfl, Bool.not_true, cond_false]
  refine loop_inv (fun kk i (_ : Unit) => slices_Equal_int_int_l4 kf kk a b (b.length : Int) (fun (v7 : Bool) => K v7) (K true) (i : Int)) _ b.length 0 (fun i _ => ∀ j, j < i → a.getD j 0 = b.getD j 0) ?_ ?_ b.length kf 0 () (by omega) (by omega) (by intro j hj; omega)
  · intro kk _ hall
    rw [slices_Equal_int_int_l4]
    unfold slices_Equal_int_int_l4_b
    rw [decide_eq_false (show ¬ ((b.length : Int) < (b.length : Int)) by omega), cond_false]
    have : a = b := ext_getD 0 hl fun i hi => hall i (by omega)
    rw [decide_eq_true this]
  · intro kk i _ _ hi hall
    have g0 : decide (0 ≤ (i : Int)) = true := decide_eq_true (by omega)
    have g1 : decide ((i : Int) < (a.length : Int)) = true := decide_eq_true (by omega)
    have g2 : decide ((i : Int) < (b.length : Int)) = true := decide_eq_true (by omega)
    by_cases he : a.getD i 0 = b.getD i 0
    · left
      refine ⟨(), fun j hj => ?_, ?_⟩
      · by_cases hji : j = i
        · subst hji; exact he
        · exact hall j (by omega)
      · rw [slices_Equal_int_int_l4]
        unfold slices_Equal_int_int_l4_b
        rw [g2, cond_true, g0, gd_true rfl, g1, gd_true rfl, gd_true rfl, gd_true rfl, Int.toNat_natCast, he, decide_eq_true rfl, Bool.not_true, cond_false, wi_1 i (by omega)]
    · right
      have hne : a ≠ b := fun h => he (by rw [h])
      rw [slices_Equal_int_int_l4]
      unfold slices_Equal_int_int_l4_b
      rw [g2, cond_true, g0, gd_true rfl, g1, gd_true rfl, gd_true rfl, gd_true rfl, Int.toNat_natCast, decide_eq_false he, Bool.not_false, cond_true, decide_eq_false hne]

theorem eqB_ok (kf : Nat) (a b : List Bool) (hs : a.length + 10 < kf) (hb : a.length ≤ 100000) (K : Bool → Option R) : slices_Equal_bool_bool kf a b K = K (decide (a = b)) := by
  unfold slices_Equal_bool_bool slices_Equal_bool_bool_b
  by_cases hl : a.length = b.length
  rotate_left
  · have hne : a ≠ b := fun h => hl (by rw [h])
    rw [decide_eq_false (show ¬ ((a.length : Int) = (b.length : Int)) by omega), Bool.not_false, cond_true, decide_eq_false hne]
  rw [hl, decide_eq_true rfl, Bool.not_true, cond_false]
  refine loop_inv (fun kk i (_ : Unit) => slices_Equal_bool_bool_l4 kf kk a b (b.length : Int) (fun (v7 : Bool) => K v7) (K true) (i : Int)) _ b.length 0 (fun i _ => ∀ j, j < i → a.getD j false = b.getD j false) ?_ ?_ b.length kf 0 () (by omega) (by omega) (by intro j hj; omega)
  · intro kk _ hall
    rw [slices_Equal_bool_bool_l4]
    unfold slices_Equal_bool_bool_l4_b
    rw [decide_eq_false (show ¬ ((b.length : Int) < (b.length : Int)) by omega), cond_false]
    have : a = b := ext_getD false hl fun i hi => hall i (by omega)
    rw [decide_eq_true this]
  · intro kk i _ _ hi hall
    have g0 : decide (0 ≤ (i : Int)) = true := decide_eq_true (by omega)
    have g1 : decide ((i : Int) < (a.length : Int)) = true := decide_eq_true (by omega)
    have g2 : decide ((i : Int) < (b.length : Int)) = true := decide_eq_true (by omega)
    by_cases he : a.getD i false = b.getD i false
    · left
      refine ⟨(), fun j hj => ?_, ?_⟩
      · by_cases hji : j = i
        · subst hji; exact he
        · exact hall j (by omega)
      · rw [slices_Equal_bool_bool_l4]
        unfold slices_Equal_bool_bool_l4_b
        rw [g2, cond_true, g0, gd_true rfl, g1, gd_true rfl, gd_true rfl, gd_true rfl, Int.toNat_natCast, decide_eq_true he, Bool.not_true, cond_false, wi_1 i (by omega)]
    · right
      have hne : a ≠ b := fun h => he (by rw [h])
      rw [slices_Equal_bool_bool_l4]
      unfold slices_Equal_bool_bool_l4_b
      rw [g2, cond_true, g0, gd_true rfl, g1, gd_true rfl, gd_true rfl, gd_true rfl, Int.toNat_natCast, decide_eq_false he, Bool.not_false, cond_true, decide_eq_false hne]

theorem eqF_ok (kf : Nat) (a b : List (List Int)) (hs : a.length + 300 < kf) (hb : a.length ≤ 100000) (hr : ∀ i, i < a.length → (a.getD i []).length ≤ 256) (K : Bool → Option R) : slices_EqualFunc_int_int_int_int kf a b K = K (decide (a = b)) := by
  unfold slices_EqualFunc_int_int_int_int slices_EqualFunc_int_int_int_int_b
  by_cases hl : a.length = b.length
  rotate_left
  · have hne : a ≠ b := fun h => hl (by rw [h])
    rw [decide_eq_false (show ¬ ((a.length : Int) = (b.length : Int)) by omega), Bool.not_false, cond_true, decide_eq_false hne]
  rw [hl, decide_eq_true rfl, Bool.not_true, cond_false]
  refine loop_inv (fun kk i (_ : Unit) => slices_EqualFunc_int_int_int_int_l4 kf kk b a (b.length : Int) (fun (v8 : Bool) => K v8) (K true) (i : Int)) _ b.length 0 (fun i _ => ∀ j, j < i → a.getD j [] = b.getD j []) ?_ ?_ b.length kf 0 () (by omega) (by omega) (by intro j hj; omega)
  · intro kk _ hall
    rw [slices_EqualFunc_int_int_int_int_l4]
    unfold slices_EqualFunc_int_int_int_int_l4_b
    rw [decide_eq_false (show ¬ ((b.length : Int) < (b.length : Int)) by omega), cond_false]
    have : a = b := ext_getD [] hl fun i hi => hall i (by omega)
    rw [decide_eq_true this]
  · intro kk i _ _ hi hall
    have g0 : decide (0 ≤ (i : Int)) = true := decide_eq_true (by omega)
    have g1 : decide ((i : Int) < (a.length : Int)) = true := decide_eq_true (by omega)
    have g2 : decide ((i : Int) < (b.length : Int)) = true := decide_eq_true (by omega)
    have hri := hr i (by omega)
    by_cases he : a.getD i [] = b.getD i []
    · left
      refine ⟨(), fun j hj => ?_, ?_⟩
      · by_cases hji : j = i
        · subst hji; exact he
        · exact hall j (by omega)
      · rw [slices_EqualFunc_int_int_int_int_l4]
        unfold slices_EqualFunc_int_int_int_int_l4_b machine_Same_1 machine_Same_1_b
        rw [g2, cond_true, g0, gd_true rfl, g1, gd_true rfl, gd_true rfl, gd_true rfl, Int.toNat_natCast, eqI_ok kf _ _ (by omega) (by omega), decide_eq_true he]
        dsimp only
        rw [Bool.not_true, cond_false, wi_1 i (by omega)]
    · right
      have hne : a ≠ b := fun h => he (by rw [h])
      rw [slices_EqualFunc_int_int_int_int_l4]
      unfold slices_EqualFunc_int_int_int_int_l4_b machine_Same_1 machine_Same_1_b
      rw [g2, cond_true, g0, gd_true rfl, g1, gd_true rfl, gd_true rfl, gd_true rfl, Int.toNat_natCast, eqI_ok kf _ _ (by omega) (by omega), decide_eq_false he]
      dsimp only
      rw [Bool.not_false, cond_true, decide_eq_false hne]

variable {C : List Int} {N : List (List Int)} {E : List Bool} {k m : Nat}

theorem same_ok (h : Mch C N E k m) (kf : Nat) (hkf : 3000 ≤ kf) (C' : List Int) (N' : List (List Int)) (E' : List Bool) (K : Bool → Option R) : machine_Same kf C N E C' N' E' K = K (decide (C = C' ∧ E = E' ∧ N = N')) := by
  unfold machine_Same machine_Same_b
  have hE := h.el; have hN := h.nl; have hk2 := h.k2; have hm2 := h.m2
  by_cases h1 : C = C'
  rotate_left
  · rw [decide_eq_false h1, cond_false, decide_eq_false fun q => h1 q.1]
  rw [decide_eq_true h1, cond_true, eqB_ok kf _ _ (by omega) (by omega)]
  by_cases h2 : E = E'
  rotate_left
  · rw [decide_eq_false h2, cond_false, decide_eq_false fun q => h2 q.2.1]
  rw [decide_eq_true h2, cond_true, eqF_ok kf _ _ (by omega) (by omega) fun i hi => by have := (h.row i (by omega)).1; omega]
  by_cases h3 : N = N'
  · rw [decide_eq_true h3, decide_eq_true ⟨h1, h2, h3⟩]
  · rw [decide_eq_false h3, decide_eq_false fun q => h3 q.2.2]

theorem is_ok (h : Mch C N E k m) (kf : Nat) (hkf : 20000 ≤ kf) (K : Bool → Option R) (T : Option R)
    (hT : ∀ (C' : List Int) (N' : List (List Int)) (E' : List Bool) (n' m' : Nat), Canon C' N' E' n' m' → Lang C N E C' N' E' → n' ≤ k → m' ≤ m → K (decide (C' = C ∧ E' = E ∧ N' = N)) = T) : least_Is kf C N E K = T := by
  unfold least_Is least_Is_b
  rw [may_ok h kf (by omega), cond_true]
  refine least_ok h kf hkf _ T fun C' N' E' n' m' hc hL hn hm => ?_
  rw [same_ok hc.mch kf (by omega)]
  exact hT C' N' E' n' m' hc hL hn hm

theorem Lang.refl (C : List Int) (N : List (List Int)) (E : List Bool) : Lang C N E C N E := fun v hv => rfl
theorem Lang.trans {C C' C2 : List Int} {N N' N2 : List (List Int)} {E E' E2 : List Bool} (h : Lang C N E C' N' E') (h' : Lang C' N' E' C2 N2 E2) : Lang C N E C2 N2 E2 := fun v hv => (h v hv).trans (h' v hv)

theorem is_canon {n : Nat} (hc : Canon C N E n m) (kf : Nat) (hkf : 20000 ≤ kf) (K : Bool → Option R) : least_Is kf C N E K = K true := by
  refine is_ok hc.mch kf hkf K _ fun C' N' E' n' m' hc' hL _ _ => ?_
  obtain ⟨h1, h2, h3⟩ := hc'.unique hc hL.symm
  rw [decide_eq_true ⟨h1, h3, h2⟩]

theorem one_of {n : Nat} (hc : Canon C N E n m) (hall : ∀ v, isBy v → en E (dls C N 0 v) = true) : n = 1 := by
  have h1 := hc.mch.k1
  apply Nat.le_antisymm _ h1
  apply Nat.le_of_not_lt
  intro h2
  obtain ⟨wd, w1, _⟩ := hc.ord
  have key : ∀ j, j < n → ∀ v, isBy v → en E (dls C N j v) = true := by
    intro j hj v hv
    obtain ⟨a, b, _⟩ := w1 j hj
    have := hall (wd j ++ v) (by
      intro x hx
      rcases List.mem_append.1 hx with q | q
      · exact a x q
      · exact hv x q)
    rwa [dls_append, b] at this
  have := hc.dist 0 1 (by omega) h2 fun v hv => by rw [key 0 (by omega) v hv, key 1 h2 v hv]
  omega

theorem begun_mch : Mch (List.replicate 256 (0 : Int)) [[1], [0]] [true, true] 2 1 where
  cl := List.length_replicate
  clr := fun b hb => ⟨0, by omega, getD_rep _ _ _⟩
  inh := fun a ha => ⟨0, by omega, by rw [getD_rep]; omega⟩
  nl := rfl
  el := rfl
  k1 := by omega
  k2 := by omega
  m1 := by omega
  m2 := by omega
  row := by
    intro s hs
    match s, hs with
    | 0, _ => exact ⟨rfl, fun a ha => by
        have : a = 0 := by omega
        subst this; exact ⟨1, by omega, rfl⟩⟩
    | 1, _ => exact ⟨rfl, fun a ha => by
        have : a = 0 := by omega
        subst this; exact ⟨0, by omega, rfl⟩⟩

theorem en_tt {s : Nat} (hs : s < 2) : en [true, true] s = true := by
  match s, hs with
  | 0, _ => rfl
  | 1, _ => rfl

theorem begun_ok (kf : Nat) (hkf : 20000 ≤ kf) (K : Bool → Option R) : law12_begun kf K = K true := by
  unfold law12_begun law12_begun_b
  refine least_ok begun_mch kf hkf _ _ fun C N E n m hc hL hn hm => ?_
  have hone : n = 1 := one_of hc fun v hv => by rw [← hL v hv]; exact en_tt (begun_mch.dls_lt (by omega) hv)
  have hnl : N.length = 1 := by rw [hc.mch.nl, hone]
  refine lparts_ok begun_mch kf hkf _ _ fun f l hl hf => ?_
  rw [hnl, decide_eq_true (show ((1 : Nat) : Int) = 1 by omega), cond_true, is_canon hc kf hkf, cond_true]
  refine is_ok begun_mch kf hkf _ _ fun C' N' E' n' m' hc' hL' hn' hm' => ?_
  have hone' : n' = 1 := one_of hc' fun v hv => by rw [← hL' v hv]; exact en_tt (begun_mch.dls_lt (by omega) hv)
  have hnl' : N'.length = 1 := by rw [hc'.mch.nl, hone']
  rw [decide_eq_false (show ¬ (C' = List.replicate 256 (0 : Int) ∧ E' = [true, true] ∧ N' = [[1], [0]]) from fun q => by rw [q.2.2] at hnl'; simp at hnl'), Bool.not_false, cond_true]
  rw [hl.1, decide_eq_true (show ((2 : Nat) : Int) = 2 by omega), cond_true, gdd (by omega), hl.2 1 (by omega)]
  have h0 : f 1 ≤ 0 := (hf 1 (by omega)).2.2 0 (by omega) fun v hv => by
    rw [en_tt (begun_mch.dls_lt (by omega) hv), en_tt (begun_mch.dls_lt (by omega) hv)]
  rw [decide_eq_true (show ((f 1 : Nat) : Int) = 0 by omega)]

/-! ### the reference's question -/
end
end Go.Ab.T

/- LeastApart: the plain law. -/
set_option maxRecDepth 100000
set_option linter.unusedSimpArgs false
set_option linter.unusedVariables false
namespace Go.Ab.T
open Go Go.Ab
section
variable {R : Type} {C : List Int} {N : List (List Int)} {E : List Bool} {n m : Nat}

theorem rowN_cls (h : Mch C N E n m) {s a : Nat} (hs : s < n) (ha : a < m) : rowN N s a < n := (h.row_lt hs ha).1
theorem eqs_rowN (h : Mch C N E n m) {s t a : Nat} (hst : eqs C N E s t) (ha : a < m) : eqs C N E (rowN N s a) (rowN N t a) := by
  obtain ⟨b, hb, hba⟩ := h.inh a ha
  have e1 : ∀ x, rowN N x a = dl C N x b := fun x => by unfold rowN dl; rw [hba]; rfl
  rw [e1, e1]
  exact eqs_step hst hb

/-! ### many steps -/
theorem itN_ind {S : Type} {f : Nat → S → S} {k : Nat} (P : S → Prop) {s : S} (h0 : P s) (hs : ∀ i s, i < k → P s → P (f i s)) : P (itN f k s) := by
  have key : ∀ j, j ≤ k → P (itN f j s) := by
    intro j
    induction j with
    | zero => intro _; exact h0
    | succ j ih => intro hj; exact hs j _ (by omega) (ih (by omega))
  exact key k (Nat.le_refl k)
/-- a step that is reached with something, and whose yield stays -/
theorem itN_hit {S : Type} {f : Nat → S → S} {k i : Nat} (P Q : S → Prop) {s : S} (hi : i < k) (h0 : P s) (hp : ∀ i s, i < k → P s → P (f i s)) (hq : ∀ s, P s → Q (f i s)) (hqq : ∀ j s, j < k → Q s → Q (f j s)) : Q (itN f k s) := by
  have key : ∀ j, j ≤ k → P (itN f j s) ∧ (i < j → Q (itN f j s)) := by
    intro j
    induction j with
    | zero => intro _; exact ⟨h0, fun h => by omega⟩
    | succ j ih =>
      intro hj
      obtain ⟨a, b⟩ := ih (by omega)
      refine ⟨hp j _ (by omega) a, fun h => ?_⟩
      by_cases hij : i = j
      · subst hij; exact hq _ a
      · exact hqq j _ (by omega) (b (by omega))
  exact (key k (Nat.le_refl k)).2 hi

/-- nobody is told apart who is alike -/
def Snd (C : List Int) (N : List (List Int)) (E : List Bool) (n : Nat) (X : Nat → Nat → Bool) : Prop := ∀ p q, p < n → q < n → X p q = true → ¬ eqs C N E p q
theorem snd_bit (h : Mch C N E n m) {X : Nat → Nat → Bool} (hX : Snd C N E n X) {i j x : Nat} (hi : i < n) (hj : j < n) (hx : x < m) : Snd C N E n (updM X i j (X i j || X (rowN N i x) (rowN N j x))) := by
  intro p q hp hq he hs
  unfold updM at he
  by_cases h1 : p = i ∧ q = j
  · obtain ⟨rfl, rfl⟩ := h1
    rw [if_pos ⟨rfl, rfl⟩, Bool.or_eq_true] at he
    rcases he with he | he
    · exact hX p q hp hq he hs
    · exact hX _ _ (rowN_cls h hp hx) (rowN_cls h hq hx) he (eqs_rowN h hs hx)
  · rw [if_neg h1] at he
    exact hX p q hp hq he hs
theorem snd_all (h : Mch C N E n m) {mm : ApM} (hk : mm.k = n) (hL : mm.L = m) (hnx : ∀ i x, mm.nx i x = rowN N i x) {X : Nat → Nat → Bool} (hX : Snd C N E n X) (rd : Nat) : Snd C N E n (itN (fun _ X => roundF mm X) rd X) := by
  refine itN_ind (Snd C N E n) hX fun _ X _ hX => ?_
  unfold roundF rowF cellF
  refine itN_ind (Snd C N E n) hX fun i X hi hX => ?_
  refine itN_ind (Snd C N E n) hX fun j X hj hX => ?_
  refine itN_ind (Snd C N E n) hX fun x X hx hX => ?_
  unfold bitF
  rw [hnx, hnx]
  exact snd_bit h hX (by omega) (by omega) (by omega)

/-- what is told apart stays so -/
def Up (Y X : Nat → Nat → Bool) : Prop := ∀ p q, Y p q = true → X p q = true
theorem up_bit {mm : ApM} {Y X : Nat → Nat → Bool} (h : Up Y X) (i j x : Nat) : Up Y (bitF mm i j x X) := by
  intro p q hY
  unfold bitF updM
  by_cases h1 : p = i ∧ q = j
  · obtain ⟨rfl, rfl⟩ := h1
    rw [if_pos ⟨rfl, rfl⟩, h p q hY]; rfl
  · rw [if_neg h1]; exact h p q hY
theorem up_cell {mm : ApM} {Y X : Nat → Nat → Bool} (h : Up Y X) (i j : Nat) : Up Y (cellF mm i j X) := itN_ind (Up Y) h fun x X _ h => up_bit h i j x
theorem up_row {mm : ApM} {Y X : Nat → Nat → Bool} (h : Up Y X) (i : Nat) : Up Y (rowF mm i X) := itN_ind (Up Y) h fun j X _ h => up_cell h i j
theorem up_round {mm : ApM} {Y X : Nat → Nat → Bool} (h : Up Y X) : Up Y (roundF mm X) := itN_ind (Up Y) h fun i X _ h => up_row h i

theorem round_hit {mm : ApM} {X : Nat → Nat → Bool} {i j x : Nat} (hi : i < mm.k) (hj : j < mm.k) (hx : x < mm.L) (he : X (mm.nx i x) (mm.nx j x) = true) : roundF mm X i j = true := by
  unfold roundF
  refine itN_hit (i := i) (Up X) (fun Y => Y i j = true) hi (fun _ _ h => h) (fun _ _ _ h => up_row h _) (fun Y hY => ?_) fun i' Y _ h => (up_row (Y := Y) (fun _ _ h => h) i') i j h
  unfold rowF
  refine itN_hit (i := j) (Up X) (fun Y => Y i j = true) hj hY (fun _ _ _ h => up_cell h _ _) (fun Y hY => ?_) fun j' Y _ h => (up_cell (Y := Y) (fun _ _ h => h) i j') i j h
  unfold cellF
  refine itN_hit (i := x) (Up X) (fun Y => Y i j = true) hx hY (fun _ _ _ h => up_bit h _ _ _) (fun Y hY => ?_) fun x' Y _ h => (up_bit (Y := Y) (fun _ _ h => h) i j x') i j h
  unfold bitF updM
  rw [if_pos ⟨rfl, rfl⟩, hY _ _ he, Bool.or_true]

/-! ### parts, finer and finer -/
noncomputable def pR (N : List (List Int)) (E : List Bool) (m : Nat) : Nat → Nat → Nat
  | 0 => p0 E
  | r + 1 => ix (sig N m (pR N E m r))
theorem pR_rnd (h : Mch C N E n m) : ∀ r, Rnd C N E n (pR N E m r)
  | 0 => by
    refine ⟨fun s t hs ht he => ?_, fun s t hs ht he => ?_, fun s hs => ?_⟩
    · have := he [] (by intro x hx; cases hx)
      have this : en E s = en E t := this
      show p0 E s = p0 E t
      unfold p0; rw [this]
    · have he : p0 E s = p0 E t := he
      unfold p0 at he
      cases h1 : en E s <;> cases h2 : en E t <;> cases h3 : en E 0 <;> rw [h1, h2, h3] at he <;> first | rfl | simp at he
    · show p0 E s < 65536
      unfold p0; split <;> omega
  | r + 1 => Rnd.round h (pR_rnd h r)
theorem pR_up (N : List (List Int)) (E : List Bool) (m r : Nat) {s t : Nat} (h : pR N E m (r + 1) s = pR N E m (r + 1) t) : pR N E m r s = pR N E m r t := by
  have h : ix (sig N m (pR N E m r)) s = ix (sig N m (pR N E m r)) t := h
  rw [ix_iff, sig_iff] at h
  exact h.1
theorem pR_stop (h : Mch C N E n m) : ∀ r, (r + 1 ≤ nf (pR N E m r) n) ∨ ∀ s t, s < n → t < n → pR N E m r s = pR N E m r t → eqs C N E s t
  | 0 => by
    left
    have h1 := h.k1
    have : 0 < nf (pR N E m 0) n := by
      have := ix_lt (σ := pR N E m 0) (t := 0) (c := n) (by omega)
      omega
    omega
  | r + 1 => by
    rcases pR_stop h r with ih | ih
    · have hr := nf_refine (σ := pR N E m r) (τ := pR N E m (r + 1)) (k := n) fun s t _ _ he => pR_up N E m r he
      by_cases he : nf (pR N E m (r + 1)) n = nf (pR N E m r) n
      · right
        intro s t hs ht hst
        refine (Rnd.stable h (pR_rnd h r) (fun s t hs ht hst => ?_) s t hs ht).1 (pR_up N E m r hst)
        have := hr.2 he s t hs ht hst
        have this : ix (sig N m (pR N E m r)) s = ix (sig N m (pR N E m r)) t := this
        exact ix_iff.1 this
      · left; omega
    · right
      intro s t hs ht hst
      exact ih s t hs ht (pR_up N E m r hst)
theorem pR_all (h : Mch C N E n m) {s t : Nat} (hs : s < n) (ht : t < n) (he : pR N E m n s = pR N E m n t) : eqs C N E s t := by
  rcases pR_stop h n with h1 | h1
  · have := nf_le (pR N E m n) n
    omega
  · exact h1 s t hs ht he

theorem rounds_up (h : Mch C N E n m) {mm : ApM} (hk : mm.k = n) (hL : mm.L = m) (hnx : ∀ i x, mm.nx i x = rowN N i x) : ∀ (r : Nat) {s t : Nat}, s < n → t < n → pR N E m r s ≠ pR N E m r t → itN (fun _ X => roundF mm X) r (fun p q => en E p != en E q) s t = true
  | 0, s, t, hs, ht, hne => by
    show (en E s != en E t) = true
    rw [bne_iff_ne]
    intro he
    refine hne ?_
    show p0 E s = p0 E t
    unfold p0; rw [he]
  | r + 1, s, t, hs, ht, hne => by
    show roundF mm (itN (fun _ X => roundF mm X) r (fun p q => en E p != en E q)) s t = true
    have hne : ¬ ix (sig N m (pR N E m r)) s = ix (sig N m (pR N E m r)) t := hne
    rw [ix_iff, sig_iff] at hne
    by_cases h1 : pR N E m r s = pR N E m r t
    · have h2 : ∃ a, a < m ∧ pR N E m r (rowN N s a) ≠ pR N E m r (rowN N t a) := by
        by_cases h2 : ∃ a, a < m ∧ pR N E m r (rowN N s a) ≠ pR N E m r (rowN N t a)
        · exact h2
        · exfalso
          refine hne ⟨h1, fun a ha => ?_⟩
          by_cases h3 : pR N E m r (rowN N s a) = pR N E m r (rowN N t a)
          · exact h3
          · exact absurd ⟨a, ha, h3⟩ h2
      obtain ⟨a, ha, h3⟩ := h2
      refine round_hit (x := a) (by omega) (by omega) (by omega) ?_
      rw [hnx, hnx]
      exact rounds_up h hk hL hnx r (rowN_cls h hs ha) (rowN_cls h ht ha) h3
    · exact up_round (Y := itN (fun _ X => roundF mm X) r (fun p q => en E p != en E q)) (fun _ _ h => h) s t (rounds_up h hk hL hnx r hs ht h1)

theorem apG_ok (h : Mch C N E n m) : apG N E = true := by
  have hh : (N.headD []).length = m := by
    have h0 := (h.row 0 h.k1).1
    have hk := h.k1
    have : N.headD [] = N.getD 0 [] := by cases N <;> rfl
    rw [this]; exact h0
  have hnl := h.nl; have hel := h.el; have hk2 := h.k2; have hm2 := h.m2
  unfold apG
  rw [hh]
  simp only [Bool.and_eq_true, decide_eq_true_eq, List.all_eq_true]
  refine ⟨by omega, by omega, by omega, fun l hl => ?_⟩
  obtain ⟨s, hs, rfl⟩ := List.getElem_of_mem hl
  have hr := h.row s (by omega)
  have hg : N.getD s [] = N[s] := by rw [List.getD_eq_getElem?_getD, List.getElem?_eq_getElem hs]; rfl
  rw [hg] at hr
  refine ⟨hr.1, fun k hk => ?_⟩
  obtain ⟨a, ha, rfl⟩ := List.getElem_of_mem hk
  obtain ⟨t, ht, he⟩ := hr.2 a (by omega)
  have hg2 : (N[s]).getD a 0 = (N[s])[a] := by rw [List.getD_eq_getElem?_getD, List.getElem?_eq_getElem ha]; rfl
  rw [hg2] at he
  rw [he]
  omega

theorem apartP_ok (hc : Canon C N E n m) : apartP N E = true := by
  have h := hc.mch
  have hh : (N.headD []).length = m := by
    have h0 := (h.row 0 h.k1).1
    have : N.headD [] = N.getD 0 [] := by cases N <;> rfl
    rw [this]; exact h0
  have hk : (pm N E).k = n := h.nl
  have hL : (pm N E).L = m := hh
  have hnx : ∀ i x, (pm N E).nx i x = rowN N i x := fun i x => rfl
  have h1 := h.k1
  unfold apartP apartB
  rw [hk, decide_eq_true (show 0 < n by omega), Bool.and_true, List.all_eq_true]
  intro i hi
  rw [List.all_eq_true]
  intro j hj
  rw [List.mem_range] at hi hj
  have hX : apartX (pm N E) i j = !(decide (i = j)) := by
    have hsnd := snd_all h hk hL hnx (X := fun p q => en E p != en E q) (by
      intro p q hp hq he hs
      rw [bne_iff_ne] at he
      exact he (hs [] (by intro x hx; cases hx))) n
    have e : apartX (pm N E) = itN (fun _ X => roundF (pm N E) X) n (fun p q => en E p != en E q) := by
      unfold apartX allF; rw [hk]; rfl
    rw [e]
    by_cases hij : i = j
    · subst hij
      rw [decide_eq_true rfl, Bool.not_true]
      cases hx : itN (fun _ X => roundF (pm N E) X) n (fun p q => en E p != en E q) i i with
      | false => rfl
      | true => exact absurd (fun v hv => rfl) (hsnd i i hi hi hx)
    · rw [decide_eq_false hij, Bool.not_false]
      exact rounds_up h hk hL hnx n hi hj fun he => hij (hc.dist i j hi hj (pR_all h hi hj he))
  rw [hX]
  simp

theorem apart_law (kf : Nat) (hkf : 20000 ≤ kf) (v1 v2 : Int) (l : List Int) (hn : 0 ≤ v1 ∧ v1 ≤ 255) (hc : 0 ≤ v2 ∧ v2 ≤ 255) (hl : ∀ x ∈ l, 0 ≤ x ∧ x ≤ 255) (K : Bool → Option R) : law12_LeastApart kf v1 v2 l K = K true := by
  unfold law12_LeastApart law12_LeastApart_b
  rw [begun_ok kf hkf, Bool.not_true, cond_false]
  by_cases hlen : 60 < (l.length : Int)
  · rw [decide_eq_true hlen, cond_true]
  rw [decide_eq_false hlen, cond_false]
  refine dfa_ok kf (by omega) v1 v2 hn hc l hl (by omega) _ _ fun C N E k m h hk8 hm4 => ?_
  refine least_ok h kf hkf _ _ fun C1 N1 E1 n1 m1 hc1 hL1 _ _ => ?_
  rw [rmay_ok hc1.mch kf (by omega), Bool.not_true, cond_false, gd_true (apG_ok hc1.mch), apartP_ok hc1]
end
end Go.Ab.T
