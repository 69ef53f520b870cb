/- LeaBM: a part of the proofs of this seat's statements. -/
import Derived.Test.YtnnojemckfikfaaLeaAM
/- The reference's parts. -/
namespace Go.Ab.T
open Go Go.Ab
set_option linter.unusedVariables false
set_option linter.unusedSimpArgs false
set_option linter.unusedSectionVars false

/-! ### who tells the same apart has the same first ones -/
section
variable {α β : Type} [DecidableEq α] [DecidableEq β]
def Ker (σ : Nat → α) (τ : Nat → β) (k : Nat) : Prop := ∀ s t, s < k → t < k → (σ s = σ t ↔ τ s = τ t)
theorem Ker.symm {σ : Nat → α} {τ : Nat → β} {k : Nat} (h : Ker σ τ k) : Ker τ σ k := fun s t hs ht => (h s t hs ht).symm
theorem Ker.fo {σ : Nat → α} {τ : Nat → β} {k : Nat} (h : Ker σ τ k) {t : Nat} (ht : t < k) : T.fo σ t = T.fo τ t := by
  obtain ⟨a1, a2, a3⟩ := fo_spec σ t
  obtain ⟨b1, b2, b3⟩ := fo_spec τ t
  have c1 := fo_min ((h _ _ (by omega) ht).1 a3)
  have c2 := fo_min ((h _ _ (by omega) ht).2 b3)
  omega
theorem Ker.fst {σ : Nat → α} {τ : Nat → β} {k : Nat} (h : Ker σ τ k) {t : Nat} (ht : t < k) : fstO σ t = fstO τ t := by
  rw [Bool.eq_iff_iff, fstO_iff, fstO_iff]
  constructor
  · intro q u hu he; exact q u hu ((h u t (by omega) ht).2 he)
  · intro q u hu he; exact q u hu ((h u t (by omega) ht).1 he)
theorem Ker.nf {σ : Nat → α} {τ : Nat → β} {k : Nat} (h : Ker σ τ k) : ∀ c, c ≤ k → T.nf σ c = T.nf τ c
  | 0, _ => rfl
  | c + 1, hc => by rw [nf_succ, nf_succ, Ker.nf h c (by omega), h.fst (by omega)]
theorem Ker.ix {σ : Nat → α} {τ : Nat → β} {k : Nat} (h : Ker σ τ k) {t : Nat} (ht : t < k) : T.ix σ t = T.ix τ t := by
  have := (fo_spec τ t).1
  unfold T.ix
  rw [h.fo ht, h.nf _ (by omega)]
theorem Ker.FL {σ : Nat → α} {τ : Nat → β} {k : Nat} (h : Ker σ τ k) : ∀ c, c ≤ k → T.FL σ c = T.FL τ c
  | 0, _ => rfl
  | c + 1, hc => by rw [FL_succ, FL_succ, Ker.FL h c (by omega), h.fst (by omega)]
end

section
variable {R : Type} {C : List Int} {N : List (List Int)} {E : List Bool} {k m : Nat}

theorem one_ok (h : Mch C N E k m) (kf : Nat) (hkf : 1000 ≤ kf) (p : Nat → Nat) (l : List Int) (hl : PL k p l) (s t : Nat) (hs : s < k) (ht : t < k) (K : Bool → Option R) :
    ref11_one kf C N E l (s : Int) (t : Int) K = K (decide (sig N m p s = sig N m p t)) := by
  have hN := h.nl; have hm2 := h.m2; obtain ⟨hrow, hrs⟩ := h.row s hs; obtain ⟨hrowp, hrp⟩ := h.row t ht
  have hl1 := hl.1
  have s0 : decide (0 ≤ (s : Int)) = true := decide_eq_true (by omega)
  have s1 : decide ((s : Int) < (N.length : Int)) = true := decide_eq_true (by omega)
  have p0 : decide (0 ≤ (t : Int)) = true := decide_eq_true (by omega)
  have p1 : decide ((t : Int) < (N.length : Int)) = true := decide_eq_true (by omega)
  unfold ref11_one ref11_one_b
  rw [s0, gd_true rfl, gdd (by omega), p0, gd_true rfl, gdd (by omega), Int.toNat_natCast, Int.toNat_natCast, hl.2 s hs, hl.2 t ht]
  by_cases hp : p s = p t
  rotate_left
  · rw [decide_eq_false (show ¬ ((p s : Int) = (p t : Int)) by omega), Bool.not_false, cond_true, decide_eq_false fun q => hp (sig_iff.1 q).1]
  rw [decide_eq_true (show ((p s : Int) = (p t : Int)) by omega), Bool.not_true, cond_false]
  refine loop_inv (fun kk i (_ : Unit) => ref11_one_l4 kf kk l (s : Int) (t : Int) N (fun v14 => K v14) (K true) (i : Int)) _ m 0 (fun i _ => ∀ a, a < i → p (rowN N s a) = p (rowN N t a)) ?_ ?_ m kf 0 () (by omega) (by omega) (fun a ha => by omega)
  · intro kk _ hall
    rw [ref11_one_l4]
    unfold ref11_one_l4_b
    rw [s0, gd_true rfl, s1, gd_true rfl, Int.toNat_natCast, decide_eq_false (show ¬ ((m : Int) < ((N.getD s []).length : Int)) by rw [hrow]; omega), cond_false, decide_eq_true (sig_iff.2 ⟨hp, hall⟩)]
  · intro kk a _ _ ha hall
    have g0 : decide (0 ≤ (a : Int)) = true := decide_eq_true (by omega)
    have g1 : decide ((a : Int) < ((N.getD s []).length : Int)) = true := decide_eq_true (by rw [hrow]; omega)
    have g2 : decide ((a : Int) < ((N.getD t []).length : Int)) = true := decide_eq_true (by rw [hrowp]; omega)
    obtain ⟨x, hx, hxe⟩ := hrs a ha
    obtain ⟨y, hy, hye⟩ := hrp a ha
    have ex : rowN N s a = x := by unfold rowN; rw [hxe, Int.toNat_natCast]
    have ey : rowN N t a = y := by unfold rowN; rw [hye, Int.toNat_natCast]
    have x0 : decide (0 ≤ (x : Int)) = true := decide_eq_true (by omega)
    have x1 : decide ((x : Int) < (l.length : Int)) = true := decide_eq_true (by omega)
    have y0 : decide (0 ≤ (y : Int)) = true := decide_eq_true (by omega)
    have y1 : decide ((y : Int) < (l.length : Int)) = true := decide_eq_true (by omega)
    have hun : ref11_one_l4 kf (kk + 1) l (s : Int) (t : Int) N (fun v14 => K v14) (K true) (a : Int) = bif (!(decide (((p x : Nat) : Int) = ((p y : Nat) : Int)))) then K false else ref11_one_l4 kf kk l (s : Int) (t : Int) N (fun v14 => K v14) (K true) ((a + 1 : Nat) : Int) := by
      rw [ref11_one_l4]
      unfold ref11_one_l4_b
      rw [s0, gd_true rfl, s1, gd_true rfl, Int.toNat_natCast, Int.toNat_natCast, Int.toNat_natCast, g1, cond_true, gd_true rfl, gd_true rfl, g0, gd_true rfl, gd_true rfl, hxe, hye, x0, gd_true rfl, x1, gd_true rfl, p0, gd_true rfl, p1, gd_true rfl, gd_true rfl, g2, gd_true rfl, y0, gd_true rfl, y1, gd_true rfl,
        Int.toNat_natCast, Int.toNat_natCast, hl.2 x hx, hl.2 y hy, wi_1 a (by omega)]
    rw [hun]
    by_cases he : p x = p y
    · left
      refine ⟨(), fun j hj => ?_, ?_⟩
      · by_cases hja : j = a
        · subst hja; rw [ex, ey, he]
        · exact hall j (by omega)
      · rw [decide_eq_true (show (p x : Int) = (p y : Int) by omega), Bool.not_true, cond_false]
    · right
      rw [decide_eq_false (show ¬ ((p x : Int) = (p y : Int)) by omega), Bool.not_false, cond_true, decide_eq_false fun q => he (by rw [← ex, ← ey]; exact (sig_iff.1 q).2 a ha)]

theorem set_zero {l : List Int} {s : Nat} (h0 : l.getD s 0 = 0) : l.set s ((0 : Nat) : Int) = l := by
  refine ext_getD 0 (List.length_set ..) fun i hi => ?_
  rw [getD_set']
  split
  · rename_i q; rw [← q.1, h0]; rfl
  · rfl

/-- the first one with the same end -/
theorem q8_ok (h : Mch C N E k m) (kf k0 : Nat) (s : Nat) (hs : s < k) (hk0 : s < k0) (v11 : Int) (q0 : List Int) (hq : q0.length = k) (h0 : q0.getD s 0 = 0) (Ke : Int → Int → List Int → List (List Int) → List Bool → List Int → Option R) :
    ref11_Parts_l8 kf k0 v11 (s : Int) C N E Ke q0 = Ke v11 (s : Int) C N E (q0.set s ((fo (en E) s : Nat) : Int)) := by
  have hE := h.el; have hk2 := h.k2
  have hgs : ∀ c : Int, (q0.set s c).getD s 0 = c := fun c => by rw [getD_set', if_pos ⟨rfl, by omega⟩]
  have s0 : decide (0 ≤ (s : Int)) = true := decide_eq_true (by omega)
  have s1 : ∀ c : Int, decide ((s : Int) < ((q0.set s c).length : Int)) = true := fun c => decide_eq_true (by rw [List.length_set]; omega)
  have s2 : decide ((s : Int) < (E.length : Int)) = true := decide_eq_true (by omega)
  have := loop_inv (fun kk c (_ : Unit) => ref11_Parts_l8 kf kk v11 (s : Int) C N E Ke (q0.set s ((c : Nat) : Int))) (Ke v11 (s : Int) C N E (q0.set s ((fo (en E) s : Nat) : Int))) s 0 (fun c _ => ∀ u, u < c → en E u ≠ en E s) ?_ ?_ s k0 0 () (by omega) (by omega) (fun u hu => by omega)
  · rw [set_zero h0] at this; exact this
  · intro kk _ hall
    have hf : fo (en E) s = s := fo_of_fst (fstO_iff.2 hall)
    rw [ref11_Parts_l8]
    unfold ref11_Parts_l8_b
    rw [s0, gd_true rfl, s1, gd_true rfl, Int.toNat_natCast, hgs, decide_eq_false (show ¬ ((s : Int) < (s : Int)) by omega), cond_false, hf]
  · intro kk c _ _ hc hall
    have c0 : decide (0 ≤ (c : Int)) = true := decide_eq_true (by omega)
    have c1 : decide ((c : Int) < (E.length : Int)) = true := decide_eq_true (by omega)
    have hun : ref11_Parts_l8 kf (kk + 1) v11 (s : Int) C N E Ke (q0.set s ((c : Nat) : Int)) = bif (!(decide (E.getD c false = E.getD s false))) then ref11_Parts_l8 kf kk v11 (s : Int) C N E Ke (q0.set s ((c + 1 : Nat) : Int)) else Ke v11 (s : Int) C N E (q0.set s ((c : Nat) : Int)) := by
      rw [ref11_Parts_l8]
      unfold ref11_Parts_l8_b
      rw [s0, gd_true rfl, s1, gd_true rfl, Int.toNat_natCast, hgs, decide_eq_true (show (c : Int) < (s : Int) by omega), cond_true, gd_true rfl, gd_true rfl, c0, gd_true rfl, c1, gd_true rfl, gd_true rfl, s2, gd_true rfl, Int.toNat_natCast, gd_true rfl, gd_true rfl, gd_true rfl, gd_true rfl, List.set_set, wi_1 c (by omega)]
    rw [hun]
    by_cases he : E.getD c false = E.getD s false
    · right
      have hf : fo (en E) s = c := by
        rw [fo_iff.2 (show en E s = en E c from he.symm)]
        exact fo_of_fst (fstO_iff.2 fun u hu q => hall u hu (q.trans he))
      rw [decide_eq_true he, Bool.not_true, cond_false, hf]
    · left
      refine ⟨(), fun u hu => ?_, ?_⟩
      · by_cases huc : u = c
        · subst huc; exact he
        · exact hall u (by omega)
      · rw [decide_eq_false he, Bool.not_false, cond_true]

/-- the first one with the same mark -/
theorem q17_ok (h : Mch C N E k m) (kf k0 : Nat) (hkf : 1000 ≤ kf) (p : Nat → Nat) (l : List Int) (hl : PL k p l) (s : Nat) (hs : s < k) (hk0 : s < k0) (v42 : Int) (v43 : Bool) (q0 : List Int) (hq : q0.length = k) (h0 : q0.getD s 0 = 0) (Ke : Int → Bool → Int → List Int → List (List Int) → List Bool → List Int → List Int → Option R) :
    ref11_Parts_l17 kf k0 v42 v43 (s : Int) C N E l Ke q0 = Ke v42 v43 (s : Int) C N E l (q0.set s ((fo (sig N m p) s : Nat) : Int)) := by
  have hE := h.el; have hk2 := h.k2
  have hgs : ∀ c : Int, (q0.set s c).getD s 0 = c := fun c => by rw [getD_set', if_pos ⟨rfl, by omega⟩]
  have s0 : decide (0 ≤ (s : Int)) = true := decide_eq_true (by omega)
  have s1 : ∀ c : Int, decide ((s : Int) < ((q0.set s c).length : Int)) = true := fun c => decide_eq_true (by rw [List.length_set]; omega)
  have := loop_inv (fun kk c (_ : Unit) => ref11_Parts_l17 kf kk v42 v43 (s : Int) C N E l Ke (q0.set s ((c : Nat) : Int))) (Ke v42 v43 (s : Int) C N E l (q0.set s ((fo (sig N m p) s : Nat) : Int))) s 0 (fun c _ => ∀ u, u < c → sig N m p u ≠ sig N m p s) ?_ ?_ s k0 0 () (by omega) (by omega) (fun u hu => by omega)
  · rw [set_zero h0] at this; exact this
  · intro kk _ hall
    have hf : fo (sig N m p) s = s := fo_of_fst (fstO_iff.2 hall)
    rw [ref11_Parts_l17]
    unfold ref11_Parts_l17_b
    rw [s0, gd_true rfl, s1, gd_true rfl, Int.toNat_natCast, hgs, decide_eq_false (show ¬ ((s : Int) < (s : Int)) by omega), cond_false, hf]
  · intro kk c _ _ hc hall
    have hun : ref11_Parts_l17 kf (kk + 1) v42 v43 (s : Int) C N E l Ke (q0.set s ((c : Nat) : Int)) = bif (!(decide (sig N m p c = sig N m p s))) then ref11_Parts_l17 kf kk v42 v43 (s : Int) C N E l Ke (q0.set s ((c + 1 : Nat) : Int)) else Ke v42 v43 (s : Int) C N E l (q0.set s ((c : Nat) : Int)) := by
      rw [ref11_Parts_l17]
      unfold ref11_Parts_l17_b
      rw [s0, gd_true rfl, s1, gd_true rfl, Int.toNat_natCast, hgs, decide_eq_true (show (c : Int) < (s : Int) by omega), cond_true, gd_true rfl, gd_true rfl, one_ok h kf hkf p l hl c s (by omega) hs, gd_true rfl, gd_true rfl, gd_true rfl, gd_true rfl, List.set_set, wi_1 c (by omega)]
    rw [hun]
    by_cases he : sig N m p c = sig N m p s
    · right
      have hf : fo (sig N m p) s = c := by
        rw [fo_iff.2 he.symm]
        exact fo_of_fst (fstO_iff.2 fun u hu q => hall u hu (q.trans he))
      rw [decide_eq_true he, Bool.not_true, cond_false, hf]
    · left
      refine ⟨(), fun u hu => ?_, ?_⟩
      · by_cases huc : u = c
        · subst huc; exact he
        · exact hall u (by omega)
      · rw [decide_eq_false he, Bool.not_false, cond_true]
end
end Go.Ab.T

/- The reference's parts: of each state the lowest one that is one with it. -/
namespace Go.Ab.T
open Go Go.Ab
set_option linter.unusedVariables false
set_option linter.unusedSimpArgs false

section
variable {R : Type} {C : List Int} {N : List (List Int)} {E : List Bool} {k m : Nat}

def pf (l : List Int) (s : Nat) : Nat := (l.getD s 0).toNat

/-- what a list of parts says -/
structure RI (C : List Int) (N : List (List Int)) (E : List Bool) (k : Nat) (l : List Int) : Prop where
  pl : PL k (pf l) l
  rnd : Rnd C N E k (pf l)
  low : ∀ s, s < k → fo (pf l) s = pf l s

theorem PL.of {σ : Nat → Nat} {l : List Int} (h : PL k σ l) : PL k (pf l) l ∧ ∀ s, s < k → pf l s = σ s := by
  have e : ∀ s, s < k → pf l s = σ s := fun s hs => by unfold pf; rw [h.2 s hs, Int.toNat_natCast]
  exact ⟨⟨h.1, fun s hs => by rw [e s hs, h.2 s hs]⟩, e⟩

theorem RI.of {α : Type} [DecidableEq α] (h : Mch C N E k m) {σ : Nat → α} {l : List Int} (hl : PL k (fo σ) l) (h1 : ∀ s t, s < k → t < k → eqs C N E s t → σ s = σ t) (h2 : ∀ s t, s < k → t < k → σ s = σ t → en E s = en E t) : RI C N E k l := by
  obtain ⟨q1, q2⟩ := hl.of
  have hk : Ker (pf l) σ k := fun s t hs ht => by rw [q2 s hs, q2 t ht, fo_iff]
  have hk2 := h.k2
  refine ⟨q1, ⟨fun s t hs ht he => (hk s t hs ht).2 (h1 s t hs ht he), fun s t hs ht he => h2 s t hs ht ((hk s t hs ht).1 he), fun s hs => ?_⟩, fun s hs => ?_⟩
  · rw [q2 s hs]
    have := (fo_spec σ s).1
    omega
  · rw [hk.fo hs, q2 s hs]

theorem q15_ok (h : Mch C N E k m) (kf k0 : Nat) (hkf : 3000 ≤ kf) (hk0 : 5000 < k0) (p : Nat → Nat) (l : List Int) (hl : PL k p l) (Ke : Int → Bool → List Int → List (List Int) → List Bool → List Int → Option R) (T : Option R)
    (hT : ∀ (b : Bool) (l' : List Int), PL k (fo (sig N m p)) l' → (b = true → ∃ s, s < k ∧ fo (sig N m p) s ≠ p s) → (b = false → ∀ s, s < k → fo (sig N m p) s = p s) → Ke (k : Int) b C N E l' = T) :
    ref11_Parts_l15 kf k0 Ke (k : Int) false 0 C N E l (List.replicate k (0 : Int)) = T := by
  have hk2 := h.k2; have hl1 := hl.1
  refine loop_all (fun kk s (acc : Bool × List Int) => ref11_Parts_l15 kf kk Ke (k : Int) acc.1 (s : Int) C N E l acc.2) T k 2500
    (fun s acc => acc.2.length = k ∧ (∀ t, t < k → acc.2.getD t 0 = if t < s then ((fo (sig N m p) t : Nat) : Int) else 0) ∧ (acc.1 = true → ∃ t, t < s ∧ fo (sig N m p) t ≠ p t) ∧ (acc.1 = false → ∀ t, t < s → fo (sig N m p) t = p t)) ?_ ?_ k k0 0 (false, List.replicate k (0 : Int)) (by omega) (by omega)
    ⟨List.length_replicate, fun t ht => by rw [if_neg (by omega)]; exact getD_rep _ _ _, fun q => (by cases q), fun _ t ht => by omega⟩
  · rintro kk ⟨b, q⟩ ⟨h1, h2, h3, h4⟩
    dsimp only at h1 h2 h3 h4 ⊢
    rw [ref11_Parts_l15]
    unfold ref11_Parts_l15_b
    rw [decide_eq_false (show ¬ ((k : Int) < (k : Int)) by omega), cond_false]
    exact hT b q ⟨h1, fun s hs => by rw [h2 s hs, if_pos hs]⟩ h3 h4
  · rintro kk s ⟨b, q⟩ hB hs ⟨h1, h2, h3, h4⟩ hrest
    dsimp only at h1 h2 h3 h4 hrest ⊢
    have h0 : q.getD s 0 = 0 := by rw [h2 s hs, if_neg (by omega)]
    rw [ref11_Parts_l15]
    unfold ref11_Parts_l15_b
    rw [decide_eq_true (show (s : Int) < (k : Int) by omega), cond_true, q17_ok h kf kk (by omega) p l hl s hs (by omega) _ _ q h1 h0, wi_1 s (by omega)]
    have hset : ∀ t, t < k → (q.set s ((fo (sig N m p) s : Nat) : Int)).getD t 0 = if t < s + 1 then ((fo (sig N m p) t : Nat) : Int) else 0 := by
      intro t ht
      rw [getD_set']
      by_cases hst : s = t
      · subst hst
        rw [if_pos ⟨rfl, by omega⟩, if_pos (by omega)]
      · rw [if_neg (fun z => hst z.1), h2 t ht]
        by_cases hlt : t < s
        · rw [if_pos hlt, if_pos (by omega)]
        · rw [if_neg hlt, if_neg (by omega)]
    cases b with
    | true =>
      rw [cond_true]
      refine hrest (true, _) ⟨by rw [List.length_set]; exact h1, hset, fun _ => ?_, fun q => (by cases q)⟩
      obtain ⟨t, ht, he⟩ := h3 rfl
      exact ⟨t, by omega, he⟩
    | false =>
      rw [cond_false, gdd (by omega), gdd (by rw [List.length_set]; omega), gdd (by omega), gdd (by omega), Int.toNat_natCast, hset s hs, if_pos (by omega), hl.2 s hs]
      refine hrest (_, _) ⟨by rw [List.length_set]; exact h1, hset, fun he => ⟨s, by omega, fun q => ?_⟩, fun he t ht => ?_⟩
      · dsimp only at he
        rw [q, decide_eq_true rfl] at he
        cases he
      · dsimp only at he
        by_cases hts : t = s
        · subst hts
          have := of_decide_eq_true (Bool.not_inj (he.trans Bool.not_true.symm))
          omega
        · exact h4 rfl t (by omega)

theorem rparts_ok (h : Mch C N E k m) (kf : Nat) (hkf : 20000 ≤ kf) (K : List Int → Option R) (T : Option R)
    (hT : ∀ (f : Nat → Nat) (l : List Int), PL k f l → (∀ s, s < k → f s ≤ s ∧ eqs C N E (f s) s ∧ ∀ t, t < k → eqs C N E t s → f s ≤ t) → K l = T) : ref11_Parts kf C N E K = T := by
  unfold ref11_Parts ref11_Parts_b
  have hN := h.nl; have hE := h.el; have hk2 := h.k2; have hk1 := h.k1
  rw [rmay_ok h kf (by omega), Bool.not_true, cond_false, hN, gdd (by omega), gdd (by omega), gdd (by rw [small_eq]; omega), Int.toNat_natCast]
  refine loop_all (fun kk s (q : List Int) => ref11_Parts_l6 kf kk (fun v23 v24 v25 v26 v27 => ref11_Parts_l11 kf kf (fun v65 => K v65) v23 true v24 v25 v26 v27) (k : Int) (s : Int) C N E q) T k 2500
    (fun s q => q.length = k ∧ ∀ t, t < k → q.getD t 0 = if t < s then ((fo (en E) t : Nat) : Int) else 0) ?_ ?_ k kf 0 (List.replicate k (0 : Int)) (by omega) (by omega)
    ⟨List.length_replicate, fun t ht => by rw [if_neg (by omega)]; exact getD_rep _ _ _⟩
  · rintro kk q ⟨h1, h2⟩
    rw [ref11_Parts_l6]
    unfold ref11_Parts_l6_b
    rw [decide_eq_false (show ¬ ((k : Int) < (k : Int)) by omega), cond_false]
    have hq : PL k (fo (en E)) q := ⟨h1, fun s hs => by rw [h2 s hs, if_pos hs]⟩
    refine loop_meas (fun kk (acc : Bool × List Int) => ref11_Parts_l11 kf kk (fun v65 => K v65) (k : Int) acc.1 C N E acc.2) T (fun acc => 2 * (k - nf (pf acc.2) k) + if acc.1 = true then 1 else 0) 6000
      (fun acc => RI C N E k acc.2 ∧ (acc.1 = false → ∀ s t, s < k → t < k → pf acc.2 s = pf acc.2 t → sig N m (pf acc.2) s = sig N m (pf acc.2) t)) ?_ kf (true, q) (by simp only [if_true]; omega)
      ⟨RI.of h hq (fun s t _ _ he => he [] (by intro b hb; cases hb)) (fun s t _ _ he => he), fun z => (by cases z)⟩
    rintro kk ⟨b, l⟩ hB ⟨hri, hst⟩ hrest
    dsimp only at hri hst hrest ⊢
    rw [ref11_Parts_l11]
    unfold ref11_Parts_l11_b
    cases b with
    | false =>
      rw [cond_false]
      have hs := hri.rnd.stable h (hst rfl)
      refine hT (pf l) l hri.pl fun s hs' => ?_
      obtain ⟨a1, a2, a3⟩ := fo_spec (pf l) s
      rw [hri.low s hs'] at a1 a3
      refine ⟨a1, (hs _ _ (by omega) hs').1 a3, fun t ht he => ?_⟩
      have := fo_min ((hs t s ht hs').2 he)
      rwa [hri.low s hs'] at this
    | true =>
      rw [cond_true, gdd (by omega), gdd (by omega), gdd (by rw [small_eq]; omega), Int.toNat_natCast]
      refine q15_ok h kf kk (by omega) (by omega) (pf l) l hri.pl _ T fun b' l' hl' hb1 hb2 => ?_
      have hround := hri.rnd.round h
      have hri' : RI C N E k l' := RI.of h hl' (fun s t hs ht he => ix_iff.1 (hround.fine s t hs ht he)) (fun s t hs ht he => hround.ends s t hs ht (ix_iff.2 he))
      obtain ⟨o1, o2⟩ := hl'.of
      have hker : Ker (pf l') (sig N m (pf l)) k := fun s t hs ht => by rw [o2 s hs, o2 t ht, fo_iff]
      have hnfle := nf_le (pf l') k
      refine hrest (b', l') ⟨hri', fun hb => ?_⟩ ?_
      · dsimp only at hb ⊢
        have hall := hb2 hb
        have hll : l' = l := ext_getD 0 (by rw [hl'.1, hri.pl.1]) fun i hi => by
          have hi' : i < k := by rw [hl'.1] at hi; exact hi
          rw [hl'.2 i hi', hri.pl.2 i hi', hall i hi']
        subst hll
        intro s t hs ht he
        exact (hker s t hs ht).1 he
      · dsimp only
        obtain ⟨r1, r2⟩ := nf_refine (σ := pf l) (τ := sig N m (pf l)) (k := k) fun s t hs ht he => (sig_iff.1 he).1
        rw [← hker.nf k (Nat.le_refl _)] at r1 r2
        cases b' with
        | false =>
          simp only [if_true, Bool.false_eq_true, if_false]
          omega
        | true =>
          obtain ⟨s, hs, hne⟩ := hb1 rfl
          have : nf (pf l') k ≠ nf (pf l) k := by
            intro heq
            have hk3 : Ker (sig N m (pf l)) (pf l) k := fun s t hs ht => ⟨fun he => (sig_iff.1 he).1, r2 heq s t hs ht⟩
            exact hne (by rw [hk3.fo hs, hri.low s hs])
          simp only [if_true]
          omega
  · rintro kk s q hB hs ⟨h1, h2⟩ hrest
    have h0 : q.getD s 0 = 0 := by rw [h2 s hs, if_neg (by omega)]
    rw [ref11_Parts_l6]
    unfold ref11_Parts_l6_b
    rw [decide_eq_true (show (s : Int) < (k : Int) by omega), cond_true, q8_ok h kf kk s hs (by omega) _ q h1 h0, wi_1 s (by omega)]
    refine hrest _ ⟨by rw [List.length_set]; exact h1, fun t ht => ?_⟩
    rw [getD_set']
    by_cases hst : s = t
    · subst hst
      rw [if_pos ⟨rfl, by omega⟩, if_pos (by omega)]
    · rw [if_neg (fun z => hst z.1), h2 t ht]
      by_cases hlt : t < s
      · rw [if_pos hlt, if_pos (by omega)]
      · rw [if_neg hlt, if_neg (by omega)]
end
end Go.Ab.T

/- The reference's reach: which states are reached. -/
namespace Go.Ab.T
open Go Go.Ab
set_option linter.unusedVariables false
set_option linter.unusedSimpArgs false

def falses (k : Nat) (t : List Bool) : Nat := sumR k fun s => if t.getD s false = true then 0 else 1
theorem sumR_le {n : Nat} {f g : Nat → Nat} (h : ∀ i, i < n → f i ≤ g i) : sumR n f ≤ sumR n g := by
  induction n with
  | zero => exact Nat.le_refl _
  | succ n ih =>
    rw [sumR_succ, sumR_succ]
    have := ih fun i hi => h i (by omega)
    have := h n (by omega)
    omega
theorem sumR_lt {n : Nat} {f g : Nat → Nat} (h : ∀ i, i < n → f i ≤ g i) (i : Nat) (hi : i < n) (hl : f i < g i) : sumR n f < sumR n g := by
  induction n with
  | zero => omega
  | succ n ih =>
    rw [sumR_succ, sumR_succ]
    by_cases hin : i = n
    · subst hin
      have := sumR_le (n := i) fun j hj => h j (by omega)
      omega
    · have := ih (fun j hj => h j (by omega)) (by omega)
      have := h n (by omega)
      omega
theorem falses_le (k : Nat) (t : List Bool) : falses k t ≤ k := by
  have := sumR_le (n := k) (f := fun s => if t.getD s false = true then 0 else 1) (g := fun _ => 1) fun i _ => by split <;> omega
  rw [sumR_const] at this
  unfold falses; omega
theorem falses_set {k : Nat} {t : List Bool} (hl : t.length = k) {i : Nat} (hi : i < k) (hf : t.getD i false = false) : falses k (t.set i true) < falses k t := by
  have key : ∀ j, (t.set i true).getD j false = if i = j ∧ j < t.length then true else t.getD j false := fun j => getD_set' t i j true false
  unfold falses
  refine sumR_lt (fun j hj => ?_) i hi ?_
  · simp only [key j]
    by_cases hij : i = j ∧ j < t.length
    · rw [if_pos hij]; simp
    · rw [if_neg hij]; exact Nat.le_refl _
  · have ki := key i
    rw [if_pos ⟨rfl, by omega⟩] at ki
    simp only [ki, hf]
    simp


section
variable {R : Type} {C : List Int} {N : List (List Int)} {E : List Bool} {k m : Nat}

def rch (C : List Int) (N : List (List Int)) (s : Nat) : Prop := ∃ v, isBy v ∧ dls C N 0 v = s
theorem rch_step (h : Mch C N E k m) {s a : Nat} (hs : rch C N s) (ha : a < m) : rch C N (rowN N s a) := by
  obtain ⟨v, hv, rfl⟩ := hs
  obtain ⟨b, hb, he⟩ := h.inh a ha
  refine ⟨v ++ [b], ?_, ?_⟩
  · intro x hx
    rcases List.mem_append.1 hx with q | q
    · exact hv x q
    · rw [List.mem_singleton.1 q]; exact hb
  · rw [dls_snoc]
    unfold dl rowN
    rw [he]; rfl
theorem rch_in (h : Mch C N E k m) {t : List Bool} (h0 : t.getD 0 false = true) (hc : ∀ s, s < k → t.getD s false = true → ∀ a, a < m → t.getD (rowN N s a) false = true) {s : Nat} (hs : rch C N s) : t.getD s false = true := by
  obtain ⟨v, hv, rfl⟩ := hs
  have key : ∀ (v : List Nat) (s : Nat), s < k → t.getD s false = true → isBy v → t.getD (dls C N s v) false = true := by
    intro v
    induction v with
    | nil => intro s _ q _; exact q
    | cons b r ih =>
      intro s hs q hv
      have hb := hv b (List.mem_cons_self ..)
      exact ih _ (h.dl_lt hs hb) (hc s hs q _ (h.cls_lt b hb).1) fun x hx => hv x (List.mem_cons_of_mem _ hx)
  exact key v 0 h.k1 h0 hv

/-- what becomes of what is reached -/
structure Grow (C : List Int) (N : List (List Int)) (k : Nat) (t : List Bool) (ag : Bool) (t' : List Bool) : Prop where
  len : t'.length = k
  snd : ∀ s, s < k → t'.getD s false = true → rch C N s
  mono : ∀ s, s < k → t.getD s false = true → t'.getD s false = true
  less : ag = true → falses k t' < falses k t
  same : ag = false → t' = t

theorem Grow.set {t t' : List Bool} {ag : Bool} (h : Grow C N k t ag t') {x : Nat} (hx : x < k) (hr : rch C N x) : Grow C N k t (ag || !(t'.getD x false)) (t'.set x true) := by
  have hl := h.len
  have hg : ∀ s, (t'.set x true).getD s false = if x = s ∧ x < t'.length then true else t'.getD s false := fun s => by
    rw [getD_set']
    by_cases hs : x = s
    · subst hs; rfl
    · rw [if_neg (fun q => hs q.1), if_neg (fun q => hs q.1)]
  cases hc : t'.getD x false with
  | true =>
    have : t'.set x true = t' := ext_getD false (List.length_set ..) fun i hi => by
      rw [hg]
      split
      · rename_i q; rw [← q.1, hc]
      · rfl
    rw [this, Bool.not_true, Bool.or_false]
    exact h
  | false =>
    rw [Bool.not_false, Bool.or_true]
    have hf := falses_set hl hx hc
    refine ⟨by rw [List.length_set]; exact hl, fun s hs hst => ?_, fun s hs hst => ?_, fun _ => ?_, fun q => (by cases q)⟩
    · rw [hg] at hst
      by_cases hxs : x = s ∧ x < t'.length
      · rw [← hxs.1]; exact hr
      · rw [if_neg hxs] at hst; exact h.snd s hs hst
    · rw [hg]
      split
      · rfl
      · exact h.mono s hs hst
    · cases ag with
      | true => have := h.less rfl; omega
      | false => rw [← h.same rfl]; exact hf

theorem r12_ok (h : Mch C N E k m) (kf k0 : Nat) (hk0 : 300 < k0) (s : Nat) (hs : s < k) (t0 : List Bool) (ag : Bool) (t : List Bool) (hG : Grow C N k t0 ag t)
    (Ke : Bool → Int → List Int → List (List Int) → List Bool → List Bool → Option R) (T : Option R)
    (hT : ∀ ag' t', Grow C N k t0 ag' t' → (ag' = false → ag = false ∧ (t0.getD s false = true → ∀ a, a < m → t0.getD (rowN N s a) false = true)) → Ke ag' (s : Int) C N E t' = T) :
    ref11_Reach_l12 kf k0 (s : Int) C N E Ke ag 0 t = T := by
  have hm2 := h.m2; have hN := h.nl; have hm1 := h.m1
  obtain ⟨r1, r2⟩ := h.row s hs
  have g0 : decide (0 ≤ (s : Int)) = true := decide_eq_true (by omega)
  have g1 : decide ((s : Int) < (N.length : Int)) = true := decide_eq_true (by omega)
  cases hts : t.getD s false with
  | false =>
    obtain ⟨k1, rfl⟩ : ∃ k1, k0 = k1 + 1 := ⟨k0 - 1, by omega⟩
    have hl := hG.len
    rw [ref11_Reach_l12]
    unfold ref11_Reach_l12_b
    rw [g0, gd_true rfl, g1, gd_true rfl, Int.toNat_natCast, decide_eq_true (show (0 : Int) < ((N.getD s []).length : Int) by omega), cond_true, gd_true rfl, gdd (by omega), hts, cond_false]
    refine hT ag t hG fun q => ⟨q, fun z => ?_⟩
    rw [hG.same q] at hts
    rw [hts] at z; cases z
  | true =>
    refine loop_all (fun kk a (acc : Bool × List Bool) => ref11_Reach_l12 kf kk (s : Int) C N E Ke acc.1 (a : Int) acc.2) T m 0
      (fun a acc => Grow C N k t0 acc.1 acc.2 ∧ acc.2.getD s false = true ∧ (acc.1 = false → ag = false ∧ ∀ c, c < a → t0.getD (rowN N s c) false = true)) ?_ ?_ m k0 0 (ag, t) (by omega) (by omega) ⟨hG, hts, fun q => ⟨q, fun c hc => by omega⟩⟩
    · rintro kk ⟨ag', t'⟩ ⟨q1, q2, q3⟩
      dsimp only at q1 q2 q3 ⊢
      rw [ref11_Reach_l12]
      unfold ref11_Reach_l12_b
      rw [g0, gd_true rfl, g1, gd_true rfl, Int.toNat_natCast, decide_eq_false (show ¬ ((m : Int) < ((N.getD s []).length : Int)) by omega), cond_false]
      exact hT ag' t' q1 fun q => ⟨(q3 q).1, fun _ a ha => (q3 q).2 a ha⟩
    · rintro kk a ⟨ag', t'⟩ _ ha ⟨q1, q2, q3⟩ hrest
      dsimp only at q1 q2 q3 hrest ⊢
      obtain ⟨x, hx, hxe⟩ := r2 a ha
      have ex : rowN N s a = x := by unfold rowN; rw [hxe, Int.toNat_natCast]
      have hl := q1.len
      have hrs : rch C N s := q1.snd s hs q2
      have hrx : rch C N x := by rw [← ex]; exact rch_step h hrs ha
      have a0 : decide (0 ≤ (a : Int)) = true := decide_eq_true (by omega)
      have a1 : decide ((a : Int) < ((N.getD s []).length : Int)) = true := decide_eq_true (by omega)
      have x0 : decide (0 ≤ (x : Int)) = true := decide_eq_true (by omega)
      have x1 : decide ((x : Int) < (t'.length : Int)) = true := decide_eq_true (by omega)
      have hnew : ((ag' || !(t'.getD x false)) = false → ag = false ∧ ∀ c, c < a + 1 → t0.getD (rowN N s c) false = true) := by
        intro q
        rw [Bool.or_eq_false_iff] at q
        obtain ⟨z1, z2⟩ := q3 q.1
        refine ⟨z1, fun c hc => ?_⟩
        by_cases hca : c = a
        · subst hca
          have := q1.same q.1
          rw [ex, ← this]
          exact Bool.not_inj (q.2.trans Bool.not_true.symm)
        · exact z2 c (by omega)
      have hst : (t'.set x true).getD s false = true := by
        rw [getD_set']
        split
        · rfl
        · exact q2
      have hR := hrest ((ag' || !(t'.getD x false)), t'.set x true) ⟨q1.set hx hrx, hst, hnew⟩
      rw [ref11_Reach_l12]
      unfold ref11_Reach_l12_b
      dsimp only
      rw [g0, gd_true rfl, g1, gd_true rfl, Int.toNat_natCast, Int.toNat_natCast, a1, cond_true, gd_true rfl, gd_true rfl, gdd (by omega), q2, cond_true]
      cases ag' with
      | true =>
        rw [cond_true, gd_true rfl, gd_true rfl, a0, gd_true rfl, hxe, x0, gd_true rfl, x1, gd_true rfl, Int.toNat_natCast, wi_1 a (by omega)]
        exact hR
      | false =>
        rw [cond_false, gd_true rfl, gd_true rfl, a0, gd_true rfl, gd_true rfl, hxe, x0, gd_true rfl, x1, gd_true rfl, gd_true rfl, gd_true rfl, gd_true rfl, gd_true rfl, gd_true rfl, gd_true rfl, Int.toNat_natCast, wi_1 a (by omega)]
        exact hR

theorem rreach_ok (h : Mch C N E k m) (kf : Nat) (hkf : 20000 ≤ kf) (K : List Bool → Option R) (T : Option R)
    (hT : ∀ t : List Bool, t.length = k → (∀ s, s < k → (t.getD s false = true ↔ rch C N s)) → K t = T) : ref11_Reach kf C N E K = T := by
  unfold ref11_Reach ref11_Reach_b
  have hN := h.nl; have hk2 := h.k2; have hk1 := h.k1
  rw [rmay_ok h kf (by omega), Bool.not_true, cond_false, hN, gdd (by omega), gdd (by omega), gdd (by rw [small_eq]; omega), Int.toNat_natCast, gdd (by rw [List.length_replicate]; omega)]
  have hz : ∀ s, ((List.replicate k false).set 0 true).getD s false = true → s = 0 := by
    intro s hs
    rw [getD_set'] at hs
    by_cases h0 : s = 0
    · exact h0
    · rw [if_neg (fun q => h0 q.1.symm), getD_rep] at hs; cases hs
  refine loop_meas (fun kk (acc : Bool × List Bool) => ref11_Reach_l6 kf kk (fun v36 => K v36) acc.1 C N E acc.2) T (fun acc => 2 * falses k acc.2 + if acc.1 = true then 1 else 0) 5000
    (fun acc => acc.2.length = k ∧ (∀ s, s < k → acc.2.getD s false = true → rch C N s) ∧ acc.2.getD 0 false = true ∧
      (acc.1 = false → ∀ s, s < k → acc.2.getD s false = true → ∀ a, a < m → acc.2.getD (rowN N s a) false = true)) ?_ kf (true, (List.replicate k false).set 0 true)
    (by have := falses_le k ((List.replicate k false).set 0 true); simp only [if_true]; omega)
    ⟨by simp only [List.length_set, List.length_replicate], fun s hs q => ⟨[], (by intro b hb; cases hb), (hz s q).symm⟩, by rw [getD_set', if_pos ⟨rfl, by rw [List.length_replicate]; omega⟩], fun q => by cases q⟩
  rintro kk ⟨ag, t⟩ hB ⟨h1, h2, h3, h4⟩ hrest
  dsimp only at h1 h2 h3 h4 hrest ⊢
  rw [ref11_Reach_l6]
  unfold ref11_Reach_l6_b
  cases ag with
  | false =>
    rw [cond_false]
    exact hT t h1 fun s hs => ⟨h2 s hs, fun q => rch_in h h3 (h4 rfl) q⟩
  | true =>
    rw [cond_true]
    refine loop_all (fun kk2 i (acc : Bool × List Bool) => ref11_Reach_l9 kf kk2 (fun v31 v32 v33 v34 v35 => ref11_Reach_l6 kf kk (fun v36 => K v36) v31 v32 v33 v34 v35) acc.1 (i : Int) C N E acc.2) T k 400
      (fun i acc => Grow C N k t acc.1 acc.2 ∧ (acc.1 = false → ∀ j, j < i → t.getD j false = true → ∀ a, a < m → t.getD (rowN N j a) false = true)) ?_ ?_ k kk 0 (false, t) (by omega) (by omega)
      ⟨⟨h1, h2, fun s _ q => q, fun q => (by cases q), fun _ => rfl⟩, fun _ j hj => by omega⟩
    · rintro kk2 ⟨ag', t'⟩ ⟨q1, q2⟩
      dsimp only at q1 q2 ⊢
      have hl := q1.len
      rw [ref11_Reach_l9]
      unfold ref11_Reach_l9_b
      rw [decide_eq_false (show ¬ ((k : Int) < (t'.length : Int)) by omega), cond_false]
      refine hrest (ag', t') ⟨q1.len, q1.snd, q1.mono 0 (by omega) h3, fun q => ?_⟩ ?_
      · dsimp only at q ⊢
        rw [q1.same q]
        exact q2 q
      · dsimp only
        cases ag' with
        | true => have := q1.less rfl; simp only [if_true]; omega
        | false => rw [q1.same rfl]; simp
    · rintro kk2 i ⟨ag', t'⟩ hB2 hi ⟨q1, q2⟩ hrest2
      dsimp only at q1 q2 hrest2 ⊢
      have hl := q1.len
      rw [ref11_Reach_l9]
      unfold ref11_Reach_l9_b
      rw [decide_eq_true (show (i : Int) < (t'.length : Int) by omega), cond_true]
      refine r12_ok h kf kk2 (by omega) i hi t ag' t' q1 _ T fun ag2 t2 hG2 hcl => ?_
      rw [wi_1 i (by omega)]
      refine hrest2 (ag2, t2) ⟨hG2, fun q j hj => ?_⟩
      obtain ⟨z1, z2⟩ := hcl q
      by_cases hji : j = i
      · subst hji; exact z2
      · exact q2 z1 j (by omega)
end
end Go.Ab.T
