/- ImG3: a part of the proofs of this seat's statements. -/
import Derived.Test.YtdoaclnnkeonkaaDoorImG1
import Derived.Test.YtdoaclnnkeonkaaDoorImG2
/- The reference's parts. -/
namespace Go.Ab.T
open Go Go.Ab
set_option linter.unusedVariables false
set_option linter.unusedSimpArgs false
set_option linter.unusedSectionVars false
section
variable {α β : Type} [DecidableEq α] [DecidableEq β]
def Ker (σ : Nat → α) (τ : Nat → β) (k : Nat) : Prop := ∀ s t, s < k → t < k → (σ s = σ t ↔ τ s = τ t)
theorem Ker.symm {σ : Nat → α} {τ : Nat → β} {k : Nat} (h : Ker σ τ k) : Ker τ σ k := fun s t hs ht => (h s t hs ht).symm
theorem Ker.fo {σ : Nat → α} {τ : Nat → β} {k : Nat} (h : Ker σ τ k) {t : Nat} (ht : t < k) : T.fo σ t = T.fo τ t := by
 obtain ⟨a1, a2, a3⟩ := fo_spec σ t
 obtain ⟨b1, b2, b3⟩ := fo_spec τ t
 have c1 := fo_min ((h _ _ (by omega) ht).1 a3)
 have c2 := fo_min ((h _ _ (by omega) ht).2 b3)
 omega
theorem Ker.fst {σ : Nat → α} {τ : Nat → β} {k : Nat} (h : Ker σ τ k) {t : Nat} (ht : t < k) : fstO σ t = fstO τ t := by
 rw [Bool.eq_iff_iff, fstO_iff, fstO_iff]
 constructor
 ·intro q u hu he; exact q u hu ((h u t (by omega) ht).2 he)
 ·intro q u hu he; exact q u hu ((h u t (by omega) ht).1 he)
theorem Ker.nf {σ : Nat → α} {τ : Nat → β} {k : Nat} (h : Ker σ τ k) : ∀ c, c ≤ k → T.nf σ c = T.nf τ c
 | 0, _ => rfl
 | c + 1, hc => by rw [nf_succ, nf_succ, Ker.nf h c (by omega), h.fst (by omega)]
theorem Ker.ix {σ : Nat → α} {τ : Nat → β} {k : Nat} (h : Ker σ τ k) {t : Nat} (ht : t < k) : T.ix σ t = T.ix τ t := by
 have := (fo_spec τ t).1
 unfold T.ix
 rw [h.fo ht, h.nf _ (by omega)]
theorem Ker.FL {σ : Nat → α} {τ : Nat → β} {k : Nat} (h : Ker σ τ k) : ∀ c, c ≤ k → T.FL σ c = T.FL τ c
 | 0, _ => rfl
 | c + 1, hc => by rw [FL_succ, FL_succ, Ker.FL h c (by omega), h.fst (by omega)]
end
section
variable {R : Type} {C : List Int} {N : List (List Int)} {E : List Bool} {k m : Nat}
theorem one_ok (h : Mch C N E k m) (kf : Nat) (hkf : 1000 ≤ kf) (p : Nat → Nat) (l : List Int) (hl : PL k p l) (s t : Nat) (hs : s < k) (ht : t < k) (K : Bool → Option R) :
  yy33 kf C N E l (s : Int) (t : Int) K = K (decide (sig N m p s = sig N m p t)) := by
 have hN := h.nl; have hm2 := h.m2; obtain ⟨hrow, hrs⟩ := h.row s hs; obtain ⟨hrowp, hrp⟩ := h.row t ht
 have hl1 := hl.1
 have s0 : decide (0 ≤ (s : Int)) = true := decide_eq_true (by omega)
 have s1 : decide ((s : Int) < (N.length : Int)) = true := decide_eq_true (by omega)
 have p0 : decide (0 ≤ (t : Int)) = true := decide_eq_true (by omega)
 have p1 : decide ((t : Int) < (N.length : Int)) = true := decide_eq_true (by omega)
 unfold yy33 yy33_b
 rw [s0, gd_true rfl, gdd (by omega), p0, gd_true rfl, gdd (by omega), Int.toNat_natCast, Int.toNat_natCast, hl.2 s hs, hl.2 t ht]
 by_cases hp : p s = p t
 rotate_left
 ·rw [decide_eq_false (show ¬ ((p s : Int) = (p t : Int)) by omega), Bool.not_false, cond_true, decide_eq_false fun q => hp (sig_iff.1 q).1]
 rw [decide_eq_true (show ((p s : Int) = (p t : Int)) by omega), Bool.not_true, cond_false]
 refine loop_inv (fun kk i (_ : Unit) => yy33_l4 kf kk l (s : Int) (t : Int) N (fun v14 => K v14) (K true) (i : Int)) _ m 0 (fun i _ => ∀ a, a < i → p (rowN N s a) = p (rowN N t a)) ?_ ?_ m kf 0 () (by omega) (by omega) (fun a ha => by omega)
 ·intro kk _ hall
  rw [yy33_l4]
  unfold yy33_l4_b
  rw [s0, gd_true rfl, s1, gd_true rfl, Int.toNat_natCast, decide_eq_false (show ¬ ((m : Int) < ((N.getD s []).length : Int)) by rw [hrow]; omega), cond_false, decide_eq_true (sig_iff.2 ⟨hp, hall⟩)]
 ·intro kk a _ _ ha hall
  have g0 : decide (0 ≤ (a : Int)) = true := decide_eq_true (by omega)
  have g1 : decide ((a : Int) < ((N.getD s []).length : Int)) = true := decide_eq_true (by rw [hrow]; omega)
  have g2 : decide ((a : Int) < ((N.getD t []).length : Int)) = true := decide_eq_true (by rw [hrowp]; omega)
  obtain ⟨x, hx, hxe⟩ := hrs a ha
  obtain ⟨y, hy, hye⟩ := hrp a ha
  have ex : rowN N s a = x := by unfold rowN; rw [hxe, Int.toNat_natCast]
  have ey : rowN N t a = y := by unfold rowN; rw [hye, Int.toNat_natCast]
  have x0 : decide (0 ≤ (x : Int)) = true := decide_eq_true (by omega)
  have x1 : decide ((x : Int) < (l.length : Int)) = true := decide_eq_true (by omega)
  have y0 : decide (0 ≤ (y : Int)) = true := decide_eq_true (by omega)
  have y1 : decide ((y : Int) < (l.length : Int)) = true := decide_eq_true (by omega)
  have hun : yy33_l4 kf (kk + 1) l (s : Int) (t : Int) N (fun v14 => K v14) (K true) (a : Int) = bif (!(decide (((p x : Nat) : Int) = ((p y : Nat) : Int)))) then K false else yy33_l4 kf kk l (s : Int) (t : Int) N (fun v14 => K v14) (K true) ((a + 1 : Nat) : Int) := by
   rw [yy33_l4]
   unfold yy33_l4_b
   rw [s0, gd_true rfl, s1, gd_true rfl, Int.toNat_natCast, Int.toNat_natCast, Int.toNat_natCast, g1, cond_true, gd_true rfl, gd_true rfl, g0, gd_true rfl, gd_true rfl, hxe, hye, x0, gd_true rfl, x1, gd_true rfl, p0, gd_true rfl, p1, gd_true rfl, gd_true rfl, g2, gd_true rfl, y0, gd_true rfl, y1, gd_true rfl,
    Int.toNat_natCast, Int.toNat_natCast, hl.2 x hx, hl.2 y hy, wi_1 a (by omega)]
  rw [hun]
  by_cases he : p x = p y
  ·left
   refine ⟨(), fun j hj => ?_, ?_⟩
   ·by_cases hja : j = a
    ·subst hja; rw [ex, ey, he]
    ·exact hall j (by omega)
   ·rw [decide_eq_true (show (p x : Int) = (p y : Int) by omega), Bool.not_true, cond_false]
  ·right
   rw [decide_eq_false (show ¬ ((p x : Int) = (p y : Int)) by omega), Bool.not_false, cond_true, decide_eq_false fun q => he (by rw [← ex, ← ey]; exact (sig_iff.1 q).2 a ha)]
theorem set_zero {l : List Int} {s : Nat} (h0 : l.getD s 0 = 0) : l.set s ((0 : Nat) : Int) = l := by
 refine ext_getD 0 (List.length_set ..) fun i hi => ?_
 rw [getD_set']
 split
 ·rename_i q; rw [← q.1, h0]; rfl
 ·rfl
theorem q8_ok (h : Mch C N E k m) (kf k0 : Nat) (s : Nat) (hs : s < k) (hk0 : s < k0) (v11 : Int) (q0 : List Int) (hq : q0.length = k) (h0 : q0.getD s 0 = 0) (Ke : Int → Int → List Int → List (List Int) → List Bool → List Int → Option R) :
  yy28_l8 kf k0 v11 (s : Int) C N E Ke q0 = Ke v11 (s : Int) C N E (q0.set s ((fo (en E) s : Nat) : Int)) := by
 have hE := h.el; have hk2 := h.k2
 have hgs : ∀ c : Int, (q0.set s c).getD s 0 = c := fun c => by rw [getD_set', if_pos ⟨rfl, by omega⟩]
 have s0 : decide (0 ≤ (s : Int)) = true := decide_eq_true (by omega)
 have s1 : ∀ c : Int, decide ((s : Int) < ((q0.set s c).length : Int)) = true := fun c => decide_eq_true (by rw [List.length_set]; omega)
 have s2 : decide ((s : Int) < (E.length : Int)) = true := decide_eq_true (by omega)
 have := loop_inv (fun kk c (_ : Unit) => yy28_l8 kf kk v11 (s : Int) C N E Ke (q0.set s ((c : Nat) : Int))) (Ke v11 (s : Int) C N E (q0.set s ((fo (en E) s : Nat) : Int))) s 0 (fun c _ => ∀ u, u < c → en E u ≠ en E s) ?_ ?_ s k0 0 () (by omega) (by omega) (fun u hu => by omega)
 ·rw [set_zero h0] at this; exact this
 ·intro kk _ hall
  have hf : fo (en E) s = s := fo_of_fst (fstO_iff.2 hall)
  rw [yy28_l8]
  unfold yy28_l8_b
  rw [s0, gd_true rfl, s1, gd_true rfl, Int.toNat_natCast, hgs, decide_eq_false (show ¬ ((s : Int) < (s : Int)) by omega), cond_false, hf]
 ·intro kk c _ _ hc hall
  have c0 : decide (0 ≤ (c : Int)) = true := decide_eq_true (by omega)
  have c1 : decide ((c : Int) < (E.length : Int)) = true := decide_eq_true (by omega)
  have hun : yy28_l8 kf (kk + 1) v11 (s : Int) C N E Ke (q0.set s ((c : Nat) : Int)) = bif (!(decide (E.getD c false = E.getD s false))) then yy28_l8 kf kk v11 (s : Int) C N E Ke (q0.set s ((c + 1 : Nat) : Int)) else Ke v11 (s : Int) C N E (q0.set s ((c : Nat) : Int)) := by
   rw [yy28_l8]
   unfold yy28_l8_b
   rw [s0, gd_true rfl, s1, gd_true rfl, Int.toNat_natCast, hgs, decide_eq_true (show (c : Int) < (s : Int) by omega), cond_true, gd_true rfl, gd_true rfl, c0, gd_true rfl, c1, gd_true rfl, gd_true rfl, s2, gd_true rfl, Int.toNat_natCast, gd_true rfl, gd_true rfl, gd_true rfl, gd_true rfl, List.set_set, wi_1 c (by omega)]
  rw [hun]
  by_cases he : E.getD c false = E.getD s false
  ·right
   have hf : fo (en E) s = c := by
    rw [fo_iff.2 (show en E s = en E c from he.symm)]
    exact fo_of_fst (fstO_iff.2 fun u hu q => hall u hu (q.trans he))
   rw [decide_eq_true he, Bool.not_true, cond_false, hf]
  ·left
   refine ⟨(), fun u hu => ?_, ?_⟩
   ·by_cases huc : u = c
    ·subst huc; exact he
    ·exact hall u (by omega)
   ·rw [decide_eq_false he, Bool.not_false, cond_true]
theorem q17_ok (h : Mch C N E k m) (kf k0 : Nat) (hkf : 1000 ≤ kf) (p : Nat → Nat) (l : List Int) (hl : PL k p l) (s : Nat) (hs : s < k) (hk0 : s < k0) (v42 : Int) (v43 : Bool) (q0 : List Int) (hq : q0.length = k) (h0 : q0.getD s 0 = 0) (Ke : Int → Bool → Int → List Int → List (List Int) → List Bool → List Int → List Int → Option R) :
  yy28_l17 kf k0 v42 v43 (s : Int) C N E l Ke q0 = Ke v42 v43 (s : Int) C N E l (q0.set s ((fo (sig N m p) s : Nat) : Int)) := by
 have hE := h.el; have hk2 := h.k2
 have hgs : ∀ c : Int, (q0.set s c).getD s 0 = c := fun c => by rw [getD_set', if_pos ⟨rfl, by omega⟩]
 have s0 : decide (0 ≤ (s : Int)) = true := decide_eq_true (by omega)
 have s1 : ∀ c : Int, decide ((s : Int) < ((q0.set s c).length : Int)) = true := fun c => decide_eq_true (by rw [List.length_set]; omega)
 have := loop_inv (fun kk c (_ : Unit) => yy28_l17 kf kk v42 v43 (s : Int) C N E l Ke (q0.set s ((c : Nat) : Int))) (Ke v42 v43 (s : Int) C N E l (q0.set s ((fo (sig N m p) s : Nat) : Int))) s 0 (fun c _ => ∀ u, u < c → sig N m p u ≠ sig N m p s) ?_ ?_ s k0 0 () (by omega) (by omega) (fun u hu => by omega)
 ·rw [set_zero h0] at this; exact this
 ·intro kk _ hall
  have hf : fo (sig N m p) s = s := fo_of_fst (fstO_iff.2 hall)
  rw [yy28_l17]
  unfold yy28_l17_b
  rw [s0, gd_true rfl, s1, gd_true rfl, Int.toNat_natCast, hgs, decide_eq_false (show ¬ ((s : Int) < (s : Int)) by omega), cond_false, hf]
 ·intro kk c _ _ hc hall
  have hun : yy28_l17 kf (kk + 1) v42 v43 (s : Int) C N E l Ke (q0.set s ((c : Nat) : Int)) = bif (!(decide (sig N m p c = sig N m p s))) then yy28_l17 kf kk v42 v43 (s : Int) C N E l Ke (q0.set s ((c + 1 : Nat) : Int)) else Ke v42 v43 (s : Int) C N E l (q0.set s ((c : Nat) : Int)) := by
   rw [yy28_l17]
   unfold yy28_l17_b
   rw [s0, gd_true rfl, s1, gd_true rfl, Int.toNat_natCast, hgs, decide_eq_true (show (c : Int) < (s : Int) by omega), cond_true, gd_true rfl, gd_true rfl, one_ok h kf hkf p l hl c s (by omega) hs, gd_true rfl, gd_true rfl, gd_true rfl, gd_true rfl, List.set_set, wi_1 c (by omega)]
  rw [hun]
  by_cases he : sig N m p c = sig N m p s
  ·right
   have hf : fo (sig N m p) s = c := by
    rw [fo_iff.2 he.symm]
    exact fo_of_fst (fstO_iff.2 fun u hu q => hall u hu (q.trans he))
   rw [decide_eq_true he, Bool.not_true, cond_false, hf]
  ·left
   refine ⟨(), fun u hu => ?_, ?_⟩
   ·by_cases huc : u = c
    ·subst huc; exact he
    ·exact hall u (by omega)
   ·rw [decide_eq_false he, Bool.not_false, cond_true]
end
end Go.Ab.T

/- The reference's parts: of each state the lowest one that is one with it. -/
namespace Go.Ab.T
open Go Go.Ab
set_option linter.unusedVariables false
set_option linter.unusedSimpArgs false
section
variable {R : Type} {C : List Int} {N : List (List Int)} {E : List Bool} {k m : Nat}
def pf (l : List Int) (s : Nat) : Nat := (l.getD s 0).toNat
structure RI (C : List Int) (N : List (List Int)) (E : List Bool) (k : Nat) (l : List Int) : Prop where
 pl : PL k (pf l) l
 rnd : Rnd C N E k (pf l)
 low : ∀ s, s < k → fo (pf l) s = pf l s
theorem PL.of {σ : Nat → Nat} {l : List Int} (h : PL k σ l) : PL k (pf l) l ∧ ∀ s, s < k → pf l s = σ s := by
 have e : ∀ s, s < k → pf l s = σ s := fun s hs => by unfold pf; rw [h.2 s hs, Int.toNat_natCast]
 exact ⟨⟨h.1, fun s hs => by rw [e s hs, h.2 s hs]⟩, e⟩
theorem RI.of {α : Type} [DecidableEq α] (h : Mch C N E k m) {σ : Nat → α} {l : List Int} (hl : PL k (fo σ) l) (h1 : gapless C → ∀ s t, s < k → t < k → eqs C N E s t → σ s = σ t) (h2 : ∀ s t, s < k → t < k → σ s = σ t → en E s = en E t) : RI C N E k l := by
 obtain ⟨q1, q2⟩ := hl.of
 have hk : Ker (pf l) σ k := fun s t hs ht => by rw [q2 s hs, q2 t ht, fo_iff]
 have hk2 := h.k2
 refine ⟨q1, ⟨fun hg s t hs ht he => (hk s t hs ht).2 (h1 hg s t hs ht he), fun s t hs ht he => h2 s t hs ht ((hk s t hs ht).1 he), fun s hs => ?_⟩, fun s hs => ?_⟩
 ·rw [q2 s hs]
  have := (fo_spec σ s).1
  omega
 ·rw [hk.fo hs, q2 s hs]
theorem q15_ok (h : Mch C N E k m) (kf k0 : Nat) (hkf : 3000 ≤ kf) (hk0 : 5000 < k0) (p : Nat → Nat) (l : List Int) (hl : PL k p l) (Ke : Int → Bool → List Int → List (List Int) → List Bool → List Int → Option R) (T : Option R)
  (hT : ∀ (b : Bool) (l' : List Int), PL k (fo (sig N m p)) l' → (b = true → ∃ s, s < k ∧ fo (sig N m p) s ≠ p s) → (b = false → ∀ s, s < k → fo (sig N m p) s = p s) → Ke (k : Int) b C N E l' = T) :
  yy28_l15 kf k0 Ke (k : Int) false 0 C N E l (List.replicate k (0 : Int)) = T := by
 have hk2 := h.k2; have hl1 := hl.1
 refine loop_all (fun kk s (acc : Bool × List Int) => yy28_l15 kf kk Ke (k : Int) acc.1 (s : Int) C N E l acc.2) T k 2500
  (fun s acc => acc.2.length = k ∧ (∀ t, t < k → acc.2.getD t 0 = if t < s then ((fo (sig N m p) t : Nat) : Int) else 0) ∧ (acc.1 = true → ∃ t, t < s ∧ fo (sig N m p) t ≠ p t) ∧ (acc.1 = false → ∀ t, t < s → fo (sig N m p) t = p t)) ?_ ?_ k k0 0 (false, List.replicate k (0 : Int)) (by omega) (by omega)
  ⟨List.length_replicate, fun t ht => by rw [if_neg (by omega)]; exact getD_rep _ _ _, fun q => (by cases q), fun _ t ht => by omega⟩
 ·rintro kk ⟨b, q⟩ ⟨h1, h2, h3, h4⟩
  dsimp only at h1 h2 h3 h4 ⊢
  rw [yy28_l15]
  unfold yy28_l15_b
  rw [decide_eq_false (show ¬ ((k : Int) < (k : Int)) by omega), cond_false]
  exact hT b q ⟨h1, fun s hs => by rw [h2 s hs, if_pos hs]⟩ h3 h4
 ·rintro kk s ⟨b, q⟩ hB hs ⟨h1, h2, h3, h4⟩ hrest
  dsimp only at h1 h2 h3 h4 hrest ⊢
  have h0 : q.getD s 0 = 0 := by rw [h2 s hs, if_neg (by omega)]
  rw [yy28_l15]
  unfold yy28_l15_b
  rw [decide_eq_true (show (s : Int) < (k : Int) by omega), cond_true, q17_ok h kf kk (by omega) p l hl s hs (by omega) _ _ q h1 h0, wi_1 s (by omega)]
  have hset : ∀ t, t < k → (q.set s ((fo (sig N m p) s : Nat) : Int)).getD t 0 = if t < s + 1 then ((fo (sig N m p) t : Nat) : Int) else 0 := by
   intro t ht
   rw [getD_set']
   by_cases hst : s = t
   ·subst hst
    rw [if_pos ⟨rfl, by omega⟩, if_pos (by omega)]
   ·rw [if_neg (fun z => hst z.1), h2 t ht]
    by_cases hlt : t < s
    ·rw [if_pos hlt, if_pos (by omega)]
    ·rw [if_neg hlt, if_neg (by omega)]
  cases b with
  | true =>
   rw [cond_true]
   refine hrest (true, _) ⟨by rw [List.length_set]; exact h1, hset, fun _ => ?_, fun q => (by cases q)⟩
   obtain ⟨t, ht, he⟩ := h3 rfl
   exact ⟨t, by omega, he⟩
  | false =>
   rw [cond_false, gdd (by omega), gdd (by rw [List.length_set]; omega), gdd (by omega), gdd (by omega), Int.toNat_natCast, hset s hs, if_pos (by omega), hl.2 s hs]
   refine hrest (_, _) ⟨by rw [List.length_set]; exact h1, hset, fun he => ⟨s, by omega, fun q => ?_⟩, fun he t ht => ?_⟩
   ·dsimp only at he
    rw [q, decide_eq_true rfl] at he
    cases he
   ·dsimp only at he
    by_cases hts : t = s
    ·subst hts
     have := of_decide_eq_true (Bool.not_inj (he.trans Bool.not_true.symm))
     omega
    ·exact h4 rfl t (by omega)
theorem rparts_ok (h : Mch C N E k m) (kf : Nat) (hkf : 20000 ≤ kf) (K : List Int → Option R) (T : Option R)
  (hT : ∀ (f : Nat → Nat) (l : List Int), PL k f l → Prt C N E k f → (∀ s, s < k → f s ≤ s ∧ f (f s) = f s) → K l = T) : yy28 kf C N E K = T := by
 unfold yy28 yy28_b
 have hN := h.nl; have hE := h.el; have hk2 := h.k2; have hk1 := h.k1
 rw [rmay_ok h kf (by omega), Bool.not_true, cond_false, hN, gdd (by omega), gdd (by omega), gdd (by rw [small_eq]; omega), Int.toNat_natCast]
 refine loop_all (fun kk s (q : List Int) => yy28_l6 kf kk (fun v23 v24 v25 v26 v27 => yy28_l11 kf kf (fun v65 => K v65) v23 true v24 v25 v26 v27) (k : Int) (s : Int) C N E q) T k 2500
  (fun s q => q.length = k ∧ ∀ t, t < k → q.getD t 0 = if t < s then ((fo (en E) t : Nat) : Int) else 0) ?_ ?_ k kf 0 (List.replicate k (0 : Int)) (by omega) (by omega)
  ⟨List.length_replicate, fun t ht => by rw [if_neg (by omega)]; exact getD_rep _ _ _⟩
 ·rintro kk q ⟨h1, h2⟩
  rw [yy28_l6]
  unfold yy28_l6_b
  rw [decide_eq_false (show ¬ ((k : Int) < (k : Int)) by omega), cond_false]
  have hq : PL k (fo (en E)) q := ⟨h1, fun s hs => by rw [h2 s hs, if_pos hs]⟩
  refine loop_meas (fun kk (acc : Bool × List Int) => yy28_l11 kf kk (fun v65 => K v65) (k : Int) acc.1 C N E acc.2) T (fun acc => 2 * (k - nf (pf acc.2) k) + if acc.1 = true then 1 else 0) 6000
   (fun acc => RI C N E k acc.2 ∧ (acc.1 = false → ∀ s t, s < k → t < k → pf acc.2 s = pf acc.2 t → sig N m (pf acc.2) s = sig N m (pf acc.2) t)) ?_ kf (true, q) (by simp only [if_true]; omega)
   ⟨RI.of h hq (fun _ s t _ _ he => he [] (by intro b hb; cases hb)) (fun s t _ _ he => he), fun z => (by cases z)⟩
  rintro kk ⟨b, l⟩ hB ⟨hri, hst⟩ hrest
  dsimp only at hri hst hrest ⊢
  rw [yy28_l11]
  unfold yy28_l11_b
  cases b with
  | false =>
   rw [cond_false]
   have hlo : ∀ s, s < k → pf l s ≤ s ∧ pf l (pf l s) = pf l s := fun s hs' => by
    obtain ⟨a1, a2, a3⟩ := fo_spec (pf l) s
    rw [hri.low s hs'] at a1 a3
    exact ⟨a1, a3⟩
   refine hT (pf l) l hri.pl ⟨fun s t b hs ht hb he => ?_, hri.rnd.ends, hri.rnd.fine, fun s hs => by have := hlo s hs; omega, by have := hlo 0 h.k1; omega⟩ hlo
   exact (sig_iff.1 (hst rfl s t hs ht he)).2 (C.getD b 0).toNat (h.cls_lt b hb).1
  | true =>
   rw [cond_true, gdd (by omega), gdd (by omega), gdd (by rw [small_eq]; omega), Int.toNat_natCast]
   refine q15_ok h kf kk (by omega) (by omega) (pf l) l hri.pl _ T fun b' l' hl' hb1 hb2 => ?_
   have hround := hri.rnd.round h
   have hri' : RI C N E k l' := RI.of h hl' (fun hg s t hs ht he => ix_iff.1 (hround.fine hg s t hs ht he)) (fun s t hs ht he => hround.ends s t hs ht (ix_iff.2 he))
   obtain ⟨o1, o2⟩ := hl'.of
   have hker : Ker (pf l') (sig N m (pf l)) k := fun s t hs ht => by rw [o2 s hs, o2 t ht, fo_iff]
   have hnfle := nf_le (pf l') k
   refine hrest (b', l') ⟨hri', fun hb => ?_⟩ ?_
   ·dsimp only at hb ⊢
    have hall := hb2 hb
    have hll : l' = l := ext_getD 0 (by rw [hl'.1, hri.pl.1]) fun i hi => by
     have hi' : i < k := by rw [hl'.1] at hi; exact hi
     rw [hl'.2 i hi', hri.pl.2 i hi', hall i hi']
    subst hll
    intro s t hs ht he
    exact (hker s t hs ht).1 he
   ·dsimp only
    obtain ⟨r1, r2⟩ := nf_refine (σ := pf l) (τ := sig N m (pf l)) (k := k) fun s t hs ht he => (sig_iff.1 he).1
    rw [← hker.nf k (Nat.le_refl _)] at r1 r2
    cases b' with
    | false =>
     simp only [if_true, Bool.false_eq_true, if_false]
     omega
    | true =>
     obtain ⟨s, hs, hne⟩ := hb1 rfl
     have : nf (pf l') k ≠ nf (pf l) k := by
      intro heq
      have hk3 : Ker (sig N m (pf l)) (pf l) k := fun s t hs ht => ⟨fun he => (sig_iff.1 he).1, r2 heq s t hs ht⟩
      exact hne (by rw [hk3.fo hs, hri.low s hs])
     simp only [if_true]
     omega
 ·rintro kk s q hB hs ⟨h1, h2⟩ hrest
  have h0 : q.getD s 0 = 0 := by rw [h2 s hs, if_neg (by omega)]
  rw [yy28_l6]
  unfold yy28_l6_b
  rw [decide_eq_true (show (s : Int) < (k : Int) by omega), cond_true, q8_ok h kf kk s hs (by omega) _ q h1 h0, wi_1 s (by omega)]
  refine hrest _ ⟨by rw [List.length_set]; exact h1, fun t ht => ?_⟩
  rw [getD_set']
  by_cases hst : s = t
  ·subst hst
   rw [if_pos ⟨rfl, by omega⟩, if_pos (by omega)]
  ·rw [if_neg (fun z => hst z.1), h2 t ht]
   by_cases hlt : t < s
   ·rw [if_pos hlt, if_pos (by omega)]
   ·rw [if_neg hlt, if_neg (by omega)]
end
end Go.Ab.T

/- The reference's reach: which states are reached. -/
namespace Go.Ab.T
open Go Go.Ab
set_option linter.unusedVariables false
set_option linter.unusedSimpArgs false
def falses (k : Nat) (t : List Bool) : Nat := sumR k fun s => if t.getD s false = true then 0 else 1
theorem sumR_le {n : Nat} {f g : Nat → Nat} (h : ∀ i, i < n → f i ≤ g i) : sumR n f ≤ sumR n g := by
 induction n with
 | zero => exact Nat.le_refl _
 | succ n ih =>
  rw [sumR_succ, sumR_succ]
  have := ih fun i hi => h i (by omega)
  have := h n (by omega)
  omega
theorem sumR_lt {n : Nat} {f g : Nat → Nat} (h : ∀ i, i < n → f i ≤ g i) (i : Nat) (hi : i < n) (hl : f i < g i) : sumR n f < sumR n g := by
 induction n with
 | zero => omega
 | succ n ih =>
  rw [sumR_succ, sumR_succ]
  by_cases hin : i = n
  ·subst hin
   have := sumR_le (n := i) fun j hj => h j (by omega)
   omega
  ·have := ih (fun j hj => h j (by omega)) (by omega)
   have := h n (by omega)
   omega
theorem falses_le (k : Nat) (t : List Bool) : falses k t ≤ k := by
 have := sumR_le (n := k) (f := fun s => if t.getD s false = true then 0 else 1) (g := fun _ => 1) fun i _ => by split <;> omega
 rw [sumR_const] at this
 unfold falses; omega
theorem falses_set {k : Nat} {t : List Bool} (hl : t.length = k) {i : Nat} (hi : i < k) (hf : t.getD i false = false) : falses k (t.set i true) < falses k t := by
 have key : ∀ j, (t.set i true).getD j false = if i = j ∧ j < t.length then true else t.getD j false := fun j => getD_set' t i j true false
 unfold falses
 refine sumR_lt (fun j hj => ?_) i hi ?_
 ·simp only [key j]
  by_cases hij : i = j ∧ j < t.length
  ·rw [if_pos hij]; simp
  ·rw [if_neg hij]; exact Nat.le_refl _
 ·have ki := key i
  rw [if_pos ⟨rfl, by omega⟩] at ki
  simp only [ki, hf]
  simp
section
variable {R : Type} {C : List Int} {N : List (List Int)} {E : List Bool} {k m : Nat}
def cm (C : List Int) : Nat := (mxTo C 255).toNat + 1
theorem Mch.cm_eq (h : Mch C N E k m) : cm C = m := by
 have h1 := h.mx_eq; have h2 := h.m1
 unfold cm
 rw [h1]; omega
def rlsN (N : List (List Int)) : Nat → List Nat → Nat
 | s, [] => s
 | s, a :: v => rlsN N (rowN N s a) v
theorem rlsN_snoc (N : List (List Int)) (a : Nat) : ∀ (v : List Nat) (s : Nat), rlsN N s (v ++ [a]) = rowN N (rlsN N s v) a
 | [], s => rfl
 | b :: v, s => rlsN_snoc N a v (rowN N s b)
def rch (C : List Int) (N : List (List Int)) (s : Nat) : Prop := ∃ v, (∀ a ∈ v, a < cm C) ∧ rlsN N 0 v = s
theorem rch_by (h : Mch C N E k m) {v : List Nat} (hv : isBy v) : rch C N (dls C N 0 v) := by
 have key : ∀ (v : List Nat) (s : Nat), dls C N s v = rlsN N s (v.map fun b => (C.getD b 0).toNat) := by
  intro v
  induction v with
  | nil => intro s; rfl
  | cons b v ih => intro s; exact ih _
 refine ⟨_, fun a ha => ?_, (key v 0).symm⟩
 obtain ⟨b, hb, rfl⟩ := List.mem_map.1 ha
 rw [h.cm_eq]
 exact (h.cls_lt b (hv b hb)).1
theorem rch_of (h : Mch C N E k m) (hg : gapless C) {s : Nat} (hs : rch C N s) : ∃ v, isBy v ∧ dls C N 0 v = s := by
 obtain ⟨v, hv, rfl⟩ := hs
 have key : ∀ (v : List Nat) (s : Nat), (∀ a ∈ v, a < cm C) → ∃ w, isBy w ∧ dls C N s w = rlsN N s v := by
  intro v
  induction v with
  | nil => intro s _; exact ⟨[], (by intro b hb; cases hb), rfl⟩
  | cons a v ih =>
   intro s hv
   have ha := hv a (by simp)
   rw [h.cm_eq] at ha
   obtain ⟨b, hb, he⟩ := h.inh hg a ha
   obtain ⟨w, w1, w2⟩ := ih (rowN N s a) fun x hx => hv x (by simp [hx])
   refine ⟨b :: w, fun x hx => ?_, ?_⟩
   ·rcases List.mem_cons.1 hx with rfl | hx
    ·exact hb
    ·exact w1 x hx
   ·show dls C N (dl C N s b) w = rlsN N (rowN N s a) v
    rw [← w2]
    congr 1
    unfold dl rowN
    rw [he]; rfl
 exact key v 0 hv
theorem rch_step (h : Mch C N E k m) {s a : Nat} (hs : rch C N s) (ha : a < m) : rch C N (rowN N s a) := by
 obtain ⟨v, hv, rfl⟩ := hs
 refine ⟨v ++ [a], ?_, rlsN_snoc N a v 0⟩
 intro x hx
 rcases List.mem_append.1 hx with q | q
 ·exact hv x q
 ·rw [List.mem_singleton.1 q, h.cm_eq]; exact ha
theorem rch_in (h : Mch C N E k m) {t : List Bool} (h0 : t.getD 0 false = true) (hc : ∀ s, s < k → t.getD s false = true → ∀ a, a < m → t.getD (rowN N s a) false = true) {s : Nat} (hs : rch C N s) : t.getD s false = true := by
 obtain ⟨v, hv, rfl⟩ := hs
 have key : ∀ (v : List Nat) (s : Nat), s < k → t.getD s false = true → (∀ a ∈ v, a < cm C) → t.getD (rlsN N s v) false = true := by
  intro v
  induction v with
  | nil => intro s _ q _; exact q
  | cons b r ih =>
   intro s hs q hv
   have hb := hv b (List.mem_cons_self ..)
   rw [h.cm_eq] at hb
   exact ih _ (h.row_lt hs hb).1 (hc s hs q _ hb) fun x hx => hv x (List.mem_cons_of_mem _ hx)
 exact key v 0 h.k1 h0 hv
structure Grow (C : List Int) (N : List (List Int)) (k : Nat) (t : List Bool) (ag : Bool) (t' : List Bool) : Prop where
 len : t'.length = k
 snd : ∀ s, s < k → t'.getD s false = true → rch C N s
 mono : ∀ s, s < k → t.getD s false = true → t'.getD s false = true
 less : ag = true → falses k t' < falses k t
 same : ag = false → t' = t
theorem Grow.set {t t' : List Bool} {ag : Bool} (h : Grow C N k t ag t') {x : Nat} (hx : x < k) (hr : rch C N x) : Grow C N k t (ag || !(t'.getD x false)) (t'.set x true) := by
 have hl := h.len
 have hg : ∀ s, (t'.set x true).getD s false = if x = s ∧ x < t'.length then true else t'.getD s false := fun s => by
  rw [getD_set']
  by_cases hs : x = s
  ·subst hs; rfl
  ·rw [if_neg (fun q => hs q.1), if_neg (fun q => hs q.1)]
 cases hc : t'.getD x false with
 | true =>
  have : t'.set x true = t' := ext_getD false (List.length_set ..) fun i hi => by
   rw [hg]
   split
   ·rename_i q; rw [← q.1, hc]
   ·rfl
  rw [this, Bool.not_true, Bool.or_false]
  exact h
 | false =>
  rw [Bool.not_false, Bool.or_true]
  have hf := falses_set hl hx hc
  refine ⟨by rw [List.length_set]; exact hl, fun s hs hst => ?_, fun s hs hst => ?_, fun _ => ?_, fun q => (by cases q)⟩
  ·rw [hg] at hst
   by_cases hxs : x = s ∧ x < t'.length
   ·rw [← hxs.1]; exact hr
   ·rw [if_neg hxs] at hst; exact h.snd s hs hst
  ·rw [hg]
   split
   ·rfl
   ·exact h.mono s hs hst
  ·cases ag with
   | true => have := h.less rfl; omega
   | false => rw [← h.same rfl]; exact hf
theorem r12_ok (h : Mch C N E k m) (kf k0 : Nat) (hk0 : 300 < k0) (s : Nat) (hs : s < k) (t0 : List Bool) (ag : Bool) (t : List Bool) (hG : Grow C N k t0 ag t)
  (Ke : Bool → Int → List Int → List (List Int) → List Bool → List Bool → Option R) (T : Option R)
  (hT : ∀ ag' t', Grow C N k t0 ag' t' → (ag' = false → ag = false ∧ (t0.getD s false = true → ∀ a, a < m → t0.getD (rowN N s a) false = true)) → Ke ag' (s : Int) C N E t' = T) :
  yy30_l12 kf k0 (s : Int) C N E Ke ag 0 t = T := by
 have hm2 := h.m2; have hN := h.nl; have hm1 := h.m1
 obtain ⟨r1, r2⟩ := h.row s hs
 have g0 : decide (0 ≤ (s : Int)) = true := decide_eq_true (by omega)
 have g1 : decide ((s : Int) < (N.length : Int)) = true := decide_eq_true (by omega)
 cases hts : t.getD s false with
 | false =>
  obtain ⟨k1, rfl⟩ : ∃ k1, k0 = k1 + 1 := ⟨k0 - 1, by omega⟩
  have hl := hG.len
  rw [yy30_l12]
  unfold yy30_l12_b
  rw [g0, gd_true rfl, g1, gd_true rfl, Int.toNat_natCast, decide_eq_true (show (0 : Int) < ((N.getD s []).length : Int) by omega), cond_true, gd_true rfl, gdd (by omega), hts, cond_false]
  refine hT ag t hG fun q => ⟨q, fun z => ?_⟩
  rw [hG.same q] at hts
  rw [hts] at z; cases z
 | true =>
  refine loop_all (fun kk a (acc : Bool × List Bool) => yy30_l12 kf kk (s : Int) C N E Ke acc.1 (a : Int) acc.2) T m 0
   (fun a acc => Grow C N k t0 acc.1 acc.2 ∧ acc.2.getD s false = true ∧ (acc.1 = false → ag = false ∧ ∀ c, c < a → t0.getD (rowN N s c) false = true)) ?_ ?_ m k0 0 (ag, t) (by omega) (by omega) ⟨hG, hts, fun q => ⟨q, fun c hc => by omega⟩⟩
  ·rintro kk ⟨ag', t'⟩ ⟨q1, q2, q3⟩
   dsimp only at q1 q2 q3 ⊢
   rw [yy30_l12]
   unfold yy30_l12_b
   rw [g0, gd_true rfl, g1, gd_true rfl, Int.toNat_natCast, decide_eq_false (show ¬ ((m : Int) < ((N.getD s []).length : Int)) by omega), cond_false]
   exact hT ag' t' q1 fun q => ⟨(q3 q).1, fun _ a ha => (q3 q).2 a ha⟩
  ·rintro kk a ⟨ag', t'⟩ _ ha ⟨q1, q2, q3⟩ hrest
   dsimp only at q1 q2 q3 hrest ⊢
   obtain ⟨x, hx, hxe⟩ := r2 a ha
   have ex : rowN N s a = x := by unfold rowN; rw [hxe, Int.toNat_natCast]
   have hl := q1.len
   have hrs : rch C N s := q1.snd s hs q2
   have hrx : rch C N x := by rw [← ex]; exact rch_step h hrs ha
   have a0 : decide (0 ≤ (a : Int)) = true := decide_eq_true (by omega)
   have a1 : decide ((a : Int) < ((N.getD s []).length : Int)) = true := decide_eq_true (by omega)
   have x0 : decide (0 ≤ (x : Int)) = true := decide_eq_true (by omega)
   have x1 : decide ((x : Int) < (t'.length : Int)) = true := decide_eq_true (by omega)
   have hnew : ((ag' || !(t'.getD x false)) = false → ag = false ∧ ∀ c, c < a + 1 → t0.getD (rowN N s c) false = true) := by
    intro q
    rw [Bool.or_eq_false_iff] at q
    obtain ⟨z1, z2⟩ := q3 q.1
    refine ⟨z1, fun c hc => ?_⟩
    by_cases hca : c = a
    ·subst hca
     have := q1.same q.1
     rw [ex, ← this]
     exact Bool.not_inj (q.2.trans Bool.not_true.symm)
    ·exact z2 c (by omega)
   have hst : (t'.set x true).getD s false = true := by
    rw [getD_set']
    split
    ·rfl
    ·exact q2
   have hR := hrest ((ag' || !(t'.getD x false)), t'.set x true) ⟨q1.set hx hrx, hst, hnew⟩
   rw [yy30_l12]
   unfold yy30_l12_b
   dsimp only
   rw [g0, gd_true rfl, g1, gd_true rfl, Int.toNat_natCast, Int.toNat_natCast, a1, cond_true, gd_true rfl, gd_true rfl, gdd (by omega), q2, cond_true]
   cases ag' with
   | true =>
    rw [cond_true, gd_true rfl, gd_true rfl, a0, gd_true rfl, hxe, x0, gd_true rfl, x1, gd_true rfl, Int.toNat_natCast, wi_1 a (by omega)]
    exact hR
   | false =>
    rw [cond_false, gd_true rfl, gd_true rfl, a0, gd_true rfl, gd_true rfl, hxe, x0, gd_true rfl, x1, gd_true rfl, gd_true rfl, gd_true rfl, gd_true rfl, gd_true rfl, gd_true rfl, gd_true rfl, Int.toNat_natCast, wi_1 a (by omega)]
    exact hR
theorem rreach_ok (h : Mch C N E k m) (kf : Nat) (hkf : 20000 ≤ kf) (K : List Bool → Option R) (T : Option R)
  (hT : ∀ t : List Bool, t.length = k → (∀ s, s < k → (t.getD s false = true ↔ rch C N s)) → K t = T) : yy30 kf C N E K = T := by
 unfold yy30 yy30_b
 have hN := h.nl; have hk2 := h.k2; have hk1 := h.k1
 rw [rmay_ok h kf (by omega), Bool.not_true, cond_false, hN, gdd (by omega), gdd (by omega), gdd (by rw [small_eq]; omega), Int.toNat_natCast, gdd (by rw [List.length_replicate]; omega)]
 have hz : ∀ s, ((List.replicate k false).set 0 true).getD s false = true → s = 0 := by
  intro s hs
  rw [getD_set'] at hs
  by_cases h0 : s = 0
  ·exact h0
  ·rw [if_neg (fun q => h0 q.1.symm), getD_rep] at hs; cases hs
 refine loop_meas (fun kk (acc : Bool × List Bool) => yy30_l6 kf kk (fun v36 => K v36) acc.1 C N E acc.2) T (fun acc => 2 * falses k acc.2 + if acc.1 = true then 1 else 0) 5000
  (fun acc => acc.2.length = k ∧ (∀ s, s < k → acc.2.getD s false = true → rch C N s) ∧ acc.2.getD 0 false = true ∧
   (acc.1 = false → ∀ s, s < k → acc.2.getD s false = true → ∀ a, a < m → acc.2.getD (rowN N s a) false = true)) ?_ kf (true, (List.replicate k false).set 0 true)
  (by have := falses_le k ((List.replicate k false).set 0 true); simp only [if_true]; omega)
  ⟨by simp only [List.length_set, List.length_replicate], fun s hs q => ⟨[], (by intro b hb; cases hb), (hz s q).symm⟩, by rw [getD_set', if_pos ⟨rfl, by rw [List.length_replicate]; omega⟩], fun q => by cases q⟩
 rintro kk ⟨ag, t⟩ hB ⟨h1, h2, h3, h4⟩ hrest
 dsimp only at h1 h2 h3 h4 hrest ⊢
 rw [yy30_l6]
 unfold yy30_l6_b
 cases ag with
 | false =>
  rw [cond_false]
  exact hT t h1 fun s hs => ⟨h2 s hs, fun q => rch_in h h3 (h4 rfl) q⟩
 | true =>
  rw [cond_true]
  refine loop_all (fun kk2 i (acc : Bool × List Bool) => yy30_l9 kf kk2 (fun v31 v32 v33 v34 v35 => yy30_l6 kf kk (fun v36 => K v36) v31 v32 v33 v34 v35) acc.1 (i : Int) C N E acc.2) T k 400
   (fun i acc => Grow C N k t acc.1 acc.2 ∧ (acc.1 = false → ∀ j, j < i → t.getD j false = true → ∀ a, a < m → t.getD (rowN N j a) false = true)) ?_ ?_ k kk 0 (false, t) (by omega) (by omega)
   ⟨⟨h1, h2, fun s _ q => q, fun q => (by cases q), fun _ => rfl⟩, fun _ j hj => by omega⟩
  ·rintro kk2 ⟨ag', t'⟩ ⟨q1, q2⟩
   dsimp only at q1 q2 ⊢
   have hl := q1.len
   rw [yy30_l9]
   unfold yy30_l9_b
   rw [decide_eq_false (show ¬ ((k : Int) < (t'.length : Int)) by omega), cond_false]
   refine hrest (ag', t') ⟨q1.len, q1.snd, q1.mono 0 (by omega) h3, fun q => ?_⟩ ?_
   ·dsimp only at q ⊢
    rw [q1.same q]
    exact q2 q
   ·dsimp only
    cases ag' with
    | true => have := q1.less rfl; simp only [if_true]; omega
    | false => rw [q1.same rfl]; simp
  ·rintro kk2 i ⟨ag', t'⟩ hB2 hi ⟨q1, q2⟩ hrest2
   dsimp only at q1 q2 hrest2 ⊢
   have hl := q1.len
   rw [yy30_l9]
   unfold yy30_l9_b
   rw [decide_eq_true (show (i : Int) < (t'.length : Int) by omega), cond_true]
   refine r12_ok h kf kk2 (by omega) i hi t ag' t' q1 _ T fun ag2 t2 hG2 hcl => ?_
   rw [wi_1 i (by omega)]
   refine hrest2 (ag2, t2) ⟨hG2, fun q j hj => ?_⟩
   obtain ⟨z1, z2⟩ := hcl q
   by_cases hji : j = i
   ·subst hji; exact z2
   ·exact q2 z1 j (by omega)
end
end Go.Ab.T

/- The reference's least machine: which bytes it holds for one. -/
namespace Go.Ab.T
open Go Go.Ab
set_option linter.unusedVariables false
set_option linter.unusedSimpArgs false
set_option linter.unusedSectionVars false
theorem FL_idx {α : Type} [DecidableEq α] {σ : Nat → α} : ∀ c i, i < (FL σ c).length → nf σ ((FL σ c).getD i 0) = i := by
 intro c
 induction c with
 | zero => intro i hi; simp [FL] at hi
 | succ c ih =>
  intro i hi
  rw [FL_succ] at hi ⊢
  cases hfc : fstO σ c with
  | true =>
   rw [hfc, if_pos rfl] at hi
   rw [if_pos rfl, snoc_getD]
   by_cases hil : i < (FL σ c).length
   ·rw [if_pos hil]; exact ih i hil
   ·have : i = (FL σ c).length := by simp at hi; omega
    rw [if_neg hil, if_pos this, this, FL_len]
  | false =>
   rw [hfc] at hi
   rw [if_neg (by simp), List.append_nil] at hi ⊢
   exact ih i hi
def col (N : List (List Int)) (f : Nat → Nat) (t : List Bool) (k a : Nat) : List Nat := (List.range k).map fun s => if t.getD s false = true then f (rowN N s a) else 0
theorem col_iff {N : List (List Int)} {f : Nat → Nat} {t : List Bool} {k a b : Nat} : col N f t k a = col N f t k b ↔ ∀ s, s < k → t.getD s false = true → f (rowN N s a) = f (rowN N s b) := by
 unfold col
 constructor
 ·intro h s hs ht
  have := congrArg (fun l => l[s]?) h
  simp only [List.getElem?_map, List.getElem?_range hs, Option.map_some, Option.some.injEq] at this
  rwa [if_pos ht, if_pos ht] at this
 ·intro h
  refine List.map_congr_left fun s hs => ?_
  by_cases ht : t.getD s false = true
  ·rw [if_pos ht, if_pos ht, h s (List.mem_range.1 hs) ht]
  ·rw [if_neg ht, if_neg ht]
section
variable {R : Type} {C : List Int} {N : List (List Int)} {E : List Bool} {k m : Nat}
theorem alike_ok (h : Mch C N E k m) (kf : Nat) (hkf : 3000 ≤ kf) (f : Nat → Nat) (l : List Int) (hl : PL k f l) (t : List Bool) (ht : t.length = k) (a b : Nat) (ha : a < m) (hb : b < m) (K : Bool → Option R) :
  yy32 kf C N E l t (a : Int) (b : Int) K = K (decide (col N f t k a = col N f t k b)) := by
 have hN := h.nl; have hk2 := h.k2; have hl1 := hl.1
 unfold yy32 yy32_b
 refine loop_inv (fun kk i (_ : Unit) => yy32_l2 kf kk l t (a : Int) (b : Int) N (fun v18 => K v18) (K true) (i : Int)) _ k 0 (fun i _ => ∀ s, s < i → t.getD s false = true → f (rowN N s a) = f (rowN N s b)) ?_ ?_ k kf 0 () (by omega) (by omega) (fun s hs => by omega)
 ·intro kk _ hall
  rw [yy32_l2]
  unfold yy32_l2_b
  rw [decide_eq_false (show ¬ ((k : Int) < (N.length : Int)) by omega), cond_false, decide_eq_true (col_iff.2 hall)]
 ·intro kk s _ _ hs hall
  obtain ⟨r1, r2⟩ := h.row s hs
  have s0 : decide (0 ≤ (s : Int)) = true := decide_eq_true (by omega)
  have s1 : decide ((s : Int) < (N.length : Int)) = true := decide_eq_true (by omega)
  have s2 : decide ((s : Int) < (t.length : Int)) = true := decide_eq_true (by omega)
  have a0 : decide (0 ≤ (a : Int)) = true := decide_eq_true (by omega)
  have a1 : decide ((a : Int) < ((N.getD s []).length : Int)) = true := decide_eq_true (by omega)
  have b0 : decide (0 ≤ (b : Int)) = true := decide_eq_true (by omega)
  have b1 : decide ((b : Int) < ((N.getD s []).length : Int)) = true := decide_eq_true (by omega)
  obtain ⟨x, hx, hxe⟩ := r2 a ha
  obtain ⟨y, hy, hye⟩ := r2 b hb
  have ex : rowN N s a = x := by unfold rowN; rw [hxe, Int.toNat_natCast]
  have ey : rowN N s b = y := by unfold rowN; rw [hye, Int.toNat_natCast]
  have x0 : decide (0 ≤ (x : Int)) = true := decide_eq_true (by omega)
  have x1 : decide ((x : Int) < (l.length : Int)) = true := decide_eq_true (by omega)
  have y0 : decide (0 ≤ (y : Int)) = true := decide_eq_true (by omega)
  have y1 : decide ((y : Int) < (l.length : Int)) = true := decide_eq_true (by omega)
  have hun : yy32_l2 kf (kk + 1) l t (a : Int) (b : Int) N (fun v18 => K v18) (K true) (s : Int) =
    bif (if t.getD s false = true then !(decide ((f x : Int) = (f y : Int))) else false) then K false else yy32_l2 kf kk l t (a : Int) (b : Int) N (fun v18 => K v18) (K true) ((s + 1 : Nat) : Int) := by
   rw [yy32_l2]
   unfold yy32_l2_b
   dsimp only
   rw [s1, cond_true, s0, gd_true rfl, s2, gd_true rfl, Int.toNat_natCast, wi_1 s (by omega)]
   cases t.getD s false with
   | false => rfl
   | true =>
    rw [cond_true, gd_true rfl, gd_true rfl, a0, gd_true rfl, Int.toNat_natCast, a1, gd_true rfl, hxe, x0, gd_true rfl, x1, gd_true rfl, gd_true rfl, gd_true rfl, b0, gd_true rfl, Int.toNat_natCast, b1, gd_true rfl, hye, y0, gd_true rfl, y1, gd_true rfl, Int.toNat_natCast, Int.toNat_natCast, hl.2 x hx, hl.2 y hy, if_pos rfl]
  rw [hun]
  by_cases hts : t.getD s false = true
  ·rw [if_pos hts]
   by_cases he : f x = f y
   ·left
    refine ⟨(), fun j hj hjt => ?_, ?_⟩
    ·by_cases hjs : j = s
     ·subst hjs; rw [ex, ey, he]
     ·exact hall j (by omega) hjt
    ·rw [decide_eq_true (show (f x : Int) = (f y : Int) by omega), Bool.not_true, cond_false]
   ·right
    rw [decide_eq_false (show ¬ ((f x : Int) = (f y : Int)) by omega), Bool.not_false, cond_true, decide_eq_false fun q => he (by rw [← ex, ← ey]; exact col_iff.1 q s hs hts)]
  ·left
   refine ⟨(), fun j hj hjt => ?_, ?_⟩
   ·by_cases hjs : j = s
    ·subst hjs; exact absurd hjt hts
    ·exact hall j (by omega) hjt
   ·rw [if_neg hts, cond_false]
def tau (C : List Int) (N : List (List Int)) (f : Nat → Nat) (t : List Bool) (k b : Nat) : List Nat := col N f t k (C.getD b 0).toNat
theorem l11_ok (h : Mch C N E k m) (kf k0 : Nat) (hkf : 3000 ≤ kf) (hk0 : 300 < k0) (f : Nat → Nat) (l : List Int) (hl : PL k f l) (t : List Bool) (ht : t.length = k) (b : Nat) (hb : b < 256) (v25 v28 : List Int) (v30 : List (List Int)) (v31 : List Bool) (v32 : List (List Int)) (v33 : List Bool)
  (Ke : Int → Int → List Int → List (List Int) → List Bool → List Int → List Int → List Bool → List Int → List Int → List (List Int) → List Bool → List (List Int) → List Bool → Option R) :
  yy26_l11 kf k0 (b : Int) C N E v25 l t v28 (castF (FL (tau C N f t k) b)) v30 v31 v32 v33 Ke 0 = Ke (b : Int) ((ix (tau C N f t k) b : Nat) : Int) C N E v25 l t v28 (castF (FL (tau C N f t k) b)) v30 v31 v32 v33 := by
 generalize hσ : tau C N f t k = σ
 have hnf := nf_le σ b
 have hcl : C.length = 256 := h.cl
 refine loop_inv (fun kk i (_ : Unit) => yy26_l11 kf kk (b : Int) C N E v25 l t v28 (castF (FL σ b)) v30 v31 v32 v33 Ke (i : Int)) _ (nf σ b) 0
  (fun i _ => ∀ j, j < i → σ ((FL σ b).getD j 0) ≠ σ b) ?_ ?_ (nf σ b) k0 0 () (by omega) (by omega) (by intro j hj; omega)
 ·intro kk _ hno
  have hf : fstO σ b = true := by
   rw [fstO_iff]
   intro u hu he
   obtain ⟨a1, a2, a3⟩ := fo_spec σ u
   have h1 := nf_lt (c := b) a2 (by omega)
   have h2 := FL_getD σ b (fo σ u) (by omega) a2
   exact hno _ h1 (by rw [h2, a3, he])
  rw [yy26_l11]
  unfold yy26_l11_b
  rw [castF_len, FL_len, decide_eq_false (show ¬ (((nf σ b : Nat) : Int) < ((nf σ b : Nat) : Int)) by omega), cond_false, ix_fst hf]
 ·intro kk i _ _ hi hno
  have hil : i < (FL σ b).length := by rw [FL_len]; exact hi
  obtain ⟨f1, f2⟩ := FL_mem (σ := σ) (c := b) (i := i) hil
  have hidx : ix σ ((FL σ b).getD i 0) = i := by rw [ix_fst f2, FL_idx b i hil]
  generalize hg : (FL σ b).getD i 0 = g at f1 f2 hidx
  obtain ⟨c1, c2⟩ := h.cls_lt b hb
  obtain ⟨d1, d2⟩ := h.cls_lt g (by omega)
  have hm2 := h.m2
  have e1 : IntKind.i64.wrap (C.getD b 0) = (((C.getD b 0).toNat : Nat) : Int) := by rw [c2, wi_n _ (by omega)]; omega
  have e2 : IntKind.i64.wrap (C.getD g 0) = (((C.getD g 0).toNat : Nat) : Int) := by rw [d2, wi_n _ (by omega)]; omega
  have hdec : decide (col N f t k (C.getD b 0).toNat = col N f t k (C.getD g 0).toNat) = decide (σ b = σ g) := by rw [← hσ]; rfl
  have hun : yy26_l11 kf (kk + 1) (b : Int) C N E v25 l t v28 (castF (FL σ b)) v30 v31 v32 v33 Ke (i : Int) =
    bif (!(decide (σ b = σ g))) then yy26_l11 kf kk (b : Int) C N E v25 l t v28 (castF (FL σ b)) v30 v31 v32 v33 Ke ((i + 1 : Nat) : Int) else Ke (b : Int) (i : Int) C N E v25 l t v28 (castF (FL σ b)) v30 v31 v32 v33 := by
   rw [yy26_l11]
   unfold yy26_l11_b
   rw [castF_len, decide_eq_true (show (i : Int) < ((FL σ b).length : Int) by omega), cond_true, gdd (by omega), gdd (by omega), gdd (by omega), gd_true rfl, Int.toNat_natCast, Int.toNat_natCast, castF_getD, hg, gdd (by omega), gdd (by omega), Int.toNat_natCast, e1, e2, alike_ok h kf hkf f l hl t ht _ _ c1 d1, hdec, wi_1 i (by omega)]
  rw [hun]
  by_cases he : σ b = σ g
  ·right
   rw [decide_eq_true he, Bool.not_true, cond_false, ix_iff.2 he, hidx]
  ·left
   refine ⟨(), fun j hj => ?_, ?_⟩
   ·by_cases hji : j = i
    ·subst hji; rw [hg]; exact fun q => he q.symm
    ·exact hno j (by omega)
   ·rw [decide_eq_false he, Bool.not_false, cond_true]
theorem l8r_ok (h : Mch C N E k m) (kf : Nat) (hkf : 3000 ≤ kf) (f : Nat → Nat) (l : List Int) (hl : PL k f l) (t : List Bool) (ht : t.length = k) (v11 : List Int) (v16 : List (List Int)) (v17 : List Bool) (v18 : List (List Int)) (v19 : List Bool)
  (Ke : List Int → List (List Int) → List Bool → List Int → List Int → List Int → List Int → List (List Int) → List Bool → List (List Int) → List Bool → Option R) (T : Option R)
  (hT : ∀ C' : List Int, C'.length = 256 → (∀ b, b < 256 → C'.getD b 0 = ((ix (tau C N f t k) b : Nat) : Int)) → Ke C N E v11 l C' (castF (FL (tau C N f t k) 256)) v16 v17 v18 v19 = T) :
  yy26_l8 kf kf Ke 0 C N E v11 l t (List.replicate 256 (0 : Int)) ([] : List Int) v16 v17 v18 v19 = T := by
 generalize hσ : tau C N f t k = σ at hT
 refine loop_all (fun kk b (acc : List Int) => yy26_l8 kf kk Ke (b : Int) C N E v11 l t acc (castF (FL σ b)) v16 v17 v18 v19) T 256 400
  (fun b acc => acc.length = 256 ∧ ∀ u, u < b → acc.getD u 0 = ((ix σ u : Nat) : Int)) ?_ ?_ 256 kf 0 (List.replicate 256 (0 : Int)) (by omega) (by omega) ⟨List.length_replicate, fun u hu => by omega⟩
 ·rintro kk acc ⟨h1, h2⟩
  rw [yy26_l8]
  unfold yy26_l8_b
  rw [decide_eq_false (show ¬ (((256 : Nat) : Int) < 256) by omega), cond_false]
  exact hT acc h1 h2
 ·rintro kk b acc hB hb ⟨h1, h2⟩ hrest
  have hnf := nf_le σ b
  have hixlt := ix_lt (σ := σ) (show b < b + 1 by omega)
  have hnf2 := nf_le σ (b + 1)
  have hw : IntKind.u8.wrap ((ix σ b : Nat) : Int) = ((ix σ b : Nat) : Int) := by rw [IntKind.wrap_u8]; omega
  have hset : (acc.set b ((ix σ b : Nat) : Int)).length = 256 ∧ ∀ u, u < b + 1 → (acc.set b ((ix σ b : Nat) : Int)).getD u 0 = ((ix σ u : Nat) : Int) := by
   refine ⟨by rw [List.length_set]; exact h1, fun u hu => ?_⟩
   rw [getD_set']
   by_cases hub : b = u
   ·subst hub; rw [if_pos ⟨rfl, by omega⟩]
   ·rw [if_neg (fun q => hub q.1), h2 u (by omega)]
  rw [yy26_l8]
  unfold yy26_l8_b
  rw [decide_eq_true (show (b : Int) < 256 by omega), cond_true]
  have hl11 := fun Ke => l11_ok (R := R) h kf kk hkf (by omega) f l hl t ht b hb v11 acc v16 v17 v18 v19 Ke
  rw [hσ] at hl11
  rw [hl11]
  dsimp only
  rw [Int.toNat_natCast, hw, wi_1 b (by omega)]
  have hR := hrest _ hset
  cases hf : fstO σ b with
  | true =>
   rw [ix_fst hf, castF_len, FL_len, decide_eq_true rfl, cond_true, gdd (by rw [small_eq]; simp; omega), gdd (by omega), gdd (by omega)]
   rw [FL_succ, hf, if_pos rfl, ix_fst hf] at hR
   have hcs : castF (FL σ b) ++ [(b : Int)] = castF (FL σ b ++ [b]) := by unfold castF; simp
   rw [hcs]
   exact hR
  | false =>
   have hne : ¬ ((ix σ b : Nat) : Int) = ((nf σ b : Nat) : Int) := by
    intro q
    have hfo := (fo_spec σ b).1
    have : fo σ b ≠ b := fun z => by have := (fo_spec σ b).2.1; rw [z, hf] at this; cases this
    have := nf_lt (c := b) (fo_spec σ b).2.1 (by omega)
    unfold ix at q
    omega
   rw [castF_len, FL_len, decide_eq_false hne, cond_false, gdd (by omega), gdd (by omega)]
   rw [FL_succ, hf, if_neg (by simp), List.append_nil] at hR
   exact hR
end
end Go.Ab.T

/- The reference's least machine is the language's own form. -/
namespace Go.Ab.T
open Go Go.Ab
set_option linter.unusedVariables false
set_option linter.unusedSimpArgs false
set_option linter.unusedSectionVars false
def fnd (q : Q) : List Int := q.map fun x => (x.1 : Int)
theorem fnd_len (q : Q) : (fnd q).length = q.length := by unfold fnd; rw [List.length_map]
theorem fnd_getD {q : Q} {j : Nat} (h : j < q.length) : (fnd q).getD j 0 = ((qs q j : Nat) : Int) := by
 unfold fnd qs
 rw [List.getD_eq_getElem?_getD, List.getElem?_map, List.getD_eq_getElem?_getD, List.getElem?_eq_getElem h]; rfl
theorem fnd_snoc (q : Q) (x : Nat × List Nat) : fnd q ++ [(x.1 : Int)] = fnd (q ++ [x]) := by unfold fnd; rw [List.map_append]; rfl
def Ext (q q' : Q) : Prop := ∃ y, q' = q ++ y
theorem Ext.refl (q : Q) : Ext q q := ⟨[], (List.append_nil q).symm⟩
theorem Ext.snoc {q q' : Q} (h : Ext q q') (x : Nat × List Nat) : Ext q (q' ++ [x]) := by
 obtain ⟨y, rfl⟩ := h
 exact ⟨y ++ [x], by rw [List.append_assoc]⟩
theorem Ext.len {q q' : Q} (h : Ext q q') : q.length ≤ q'.length := by
 obtain ⟨y, rfl⟩ := h
 rw [List.length_append]; omega
theorem Ext.qs {q q' : Q} (h : Ext q q') {i : Nat} (hi : i < q.length) : T.qs q' i = T.qs q i := by
 obtain ⟨y, rfl⟩ := h
 unfold T.qs
 rw [List.getD_eq_getElem?_getD, List.getD_eq_getElem?_getD, List.getElem?_append_left hi]
def RowS (δ : Nat → Nat → Nat) (F : List Nat) (q : Q) (i a : Nat) (row : List Int) : Prop := row.length = a ∧ ∀ c, c < a → ∃ j, j < q.length ∧ row.getD c 0 = (j : Int) ∧ qs q j = δ (qs q i) (F.getD c 0)
theorem RowS.grow {δ : Nat → Nat → Nat} {F : List Nat} {q q' : Q} {i a : Nat} {row : List Int} (h : RowS δ F q i a row) (he : Ext q q') (hi : i < q.length) : RowS δ F q' i a row := by
 refine ⟨h.1, fun c hc => ?_⟩
 obtain ⟨j, j1, j2, j3⟩ := h.2 c hc
 have := he.len
 exact ⟨j, by omega, j2, by rw [he.qs j1, he.qs hi, j3]⟩
theorem RowS.snoc {δ : Nat → Nat → Nat} {F : List Nat} {q : Q} {i a j : Nat} {row : List Int} (h : RowS δ F q i a row) (hj : j < q.length) (he : qs q j = δ (qs q i) (F.getD a 0)) : RowS δ F q i (a + 1) (row ++ [(j : Int)]) := by
 refine ⟨by rw [List.length_append, h.1]; rfl, fun c hc => ?_⟩
 rw [snoc_getD, h.1]
 by_cases hca : c < a
 ·rw [if_pos hca]; exact h.2 c hca
 ·have : c = a := by omega
  subst this
  rw [if_neg hca, if_pos rfl]
  exact ⟨j, hj, rfl, he⟩
def posn (σ : Nat → List Nat) (a : Nat) : Nat := if a < nf σ 256 then (FL σ 256).getD a 0 else 256
theorem posn_spec {σ : Nat → List Nat} {a : Nat} (h : a < nf σ 256) : posn σ a = (FL σ 256).getD a 0 ∧ posn σ a < 256 ∧ fstO σ (posn σ a) = true ∧ nf σ (posn σ a) = a := by
 have hl : a < (FL σ 256).length := by rw [FL_len]; exact h
 have e : posn σ a = (FL σ 256).getD a 0 := by unfold posn; rw [if_pos h]
 obtain ⟨f1, f2⟩ := FL_mem hl
 have f3 := FL_idx 256 a hl
 rw [← e] at f1 f2 f3
 exact ⟨e, f1, f2, f3⟩
theorem posn_zero (σ : Nat → List Nat) : posn σ 0 = 0 := by
 have hf : fstO σ 0 = true := fstO_iff.2 fun u hu => by omega
 have h1 : nf σ 0 < nf σ 256 := nf_lt hf (by omega)
 have h0 : nf σ 0 = 0 := rfl
 rw [h0] at h1
 rw [(posn_spec h1).1]
 have := FL_getD σ 256 0 (by omega) hf
 rwa [h0] at this
theorem posn_gap {σ : Nat → List Nat} {a g : Nat} (h : a < nf σ 256) (h1 : posn σ a + 1 ≤ g) (h2 : g < posn σ (a + 1)) (h3 : g < 256) : fstO σ g = false := by
 cases hf : fstO σ g with
 | false => rfl
 | true =>
  obtain ⟨p1, p2, p3, p4⟩ := posn_spec h
  have q1 := nf_lt (c := g) p3 (by omega)
  by_cases h4 : a + 1 < nf σ 256
  ·obtain ⟨r1, r2, r3, r4⟩ := posn_spec h4
   have := nf_lt (c := posn σ (a + 1)) hf h2
   omega
  ·have := nf_lt (c := 256) hf h3
   omega
theorem posn_le {σ : Nat → List Nat} {a : Nat} (h : a < nf σ 256) : posn σ a + 1 ≤ posn σ (a + 1) := by
 obtain ⟨p1, p2, p3, p4⟩ := posn_spec h
 by_cases h4 : a + 1 < nf σ 256
 ·obtain ⟨r1, r2, r3, r4⟩ := posn_spec h4
  apply Nat.succ_le_of_lt
  apply Nat.lt_of_not_le
  intro hle
  have := nf_mono σ (posn σ (a + 1)) (posn σ a - posn σ (a + 1))
  rw [show posn σ (a + 1) + (posn σ a - posn σ (a + 1)) = posn σ a by omega] at this
  omega
 ·have : posn σ (a + 1) = 256 := by unfold posn; rw [if_neg h4]
  omega
noncomputable def clx (σ : Nat → List Nat) (b : Nat) : Int := ((ix σ b : Nat) : Int)
theorem clx_iff {σ : Nat → List Nat} {b b' : Nat} : clx σ b = clx σ b' ↔ σ b = σ b' := by
 unfold clx
 rw [← ix_iff (σ := σ)]
 constructor
 ·intro h; omega
 ·intro h; rw [h]
theorem clx_rep {σ : Nat → List Nat} {b : Nat} : isR (clx σ) b ↔ fstO σ b = true := by
 rw [fstO_iff]
 constructor
 ·intro h u hu he; exact h u hu (clx_iff.2 he)
 ·intro h u hu he; exact h u hu (clx_iff.1 he)
section
variable {R : Type} {C : List Int} {N : List (List Int)} {E : List Bool} {k m : Nat}
theorem l26_ok (kf k0 : Nat) (q : Q) (hq : q.length ≤ 2000) (hk0 : 2100 < k0) (t : Nat) (v91 v92 : Int) (v95 : List Int) (v96 : List (List Int)) (v97 : List Bool) (v98 v99 v100 v101 v103 : List Int) (v104 : List (List Int)) (v105 : List Bool) (v106 : List (List Int)) (v107 : List Bool)
  (Ke : Int → Int → Int → Int → List Int → List (List Int) → List Bool → List Int → List Int → List Int → List Int → List Int → List Int → List (List Int) → List Bool → List (List Int) → List Bool → Option R) (T : Option R)
  (hT : ∀ j : Nat, (j < q.length ∧ qs q j = t) ∨ (j = q.length ∧ ∀ x ∈ q, x.1 ≠ t) → Ke v91 v92 (t : Int) (j : Int) v95 v96 v97 v98 v99 v100 v101 (fnd q) v103 v104 v105 v106 v107 = T) :
  yy26_l26 kf k0 v91 v92 (t : Int) v95 v96 v97 v98 v99 v100 v101 (fnd q) v103 v104 v105 v106 v107 Ke 0 = T := by
 refine loop_inv (fun kk j (_ : Unit) => yy26_l26 kf kk v91 v92 (t : Int) v95 v96 v97 v98 v99 v100 v101 (fnd q) v103 v104 v105 v106 v107 Ke (j : Int)) T q.length 0 (fun j _ => ∀ i, i < j → qs q i ≠ t) ?_ ?_ q.length k0 0 () (by omega) (by omega) (fun i hi => by omega)
 ·intro kk _ hno
  rw [yy26_l26]
  unfold yy26_l26_b
  rw [fnd_len, decide_eq_false (show ¬ ((q.length : Int) < (q.length : Int)) by omega), cond_false]
  refine hT q.length (Or.inr ⟨rfl, fun x hx he => ?_⟩)
  obtain ⟨i, hi, rfl⟩ := q_of_mem hx
  exact hno i hi he
 ·intro kk j _ _ hj hno
  have hun : yy26_l26 kf (kk + 1) v91 v92 (t : Int) v95 v96 v97 v98 v99 v100 v101 (fnd q) v103 v104 v105 v106 v107 Ke (j : Int) = bif (!(decide (((qs q j : Nat) : Int) = (t : Int)))) then yy26_l26 kf kk v91 v92 (t : Int) v95 v96 v97 v98 v99 v100 v101 (fnd q) v103 v104 v105 v106 v107 Ke ((j + 1 : Nat) : Int) else Ke v91 v92 (t : Int) (j : Int) v95 v96 v97 v98 v99 v100 v101 (fnd q) v103 v104 v105 v106 v107 := by
   rw [yy26_l26]
   unfold yy26_l26_b
   rw [fnd_len, decide_eq_true (show (j : Int) < (q.length : Int) by omega), cond_true, gdd (by omega), gd_true rfl, Int.toNat_natCast, fnd_getD hj, wi_1 j (by omega)]
  by_cases he : qs q j = t
  ·right
   rw [hun, decide_eq_true (show ((qs q j : Nat) : Int) = (t : Int) by omega), Bool.not_true, cond_false]
   exact hT j (Or.inl ⟨hj, he⟩)
  ·left
   refine ⟨(), fun i hi => ?_, ?_⟩
   ·by_cases hij : i = j
    ·subst hij; exact he
    ·exact hno i (by omega)
   ·rw [hun, decide_eq_false (show ¬ (((qs q j : Nat) : Int) = (t : Int)) by omega), Bool.not_false, cond_true]
theorem l22_ok (h : Mch C N E k m) {f : Nat → Nat} {l : List Int} (hl : PL k f l) {σ : Nat → List Nat} (hS : Stp (dq C N f id) (Gq C N f) (clx σ) k) (kf k0 : Nat) (hk0 : 3000 < k0) (i : Nat) (q : Q) (hb : Bg (dq C N f id) (Gq C N f) (clx σ) k i 0 q) (hi : i < q.length)
  (v80 v82 : List Int) (v86 : List (List Int)) (v87 : List Bool) (v88 : List (List Int)) (v89 : List Bool)
  (Ke : Int → List Int → List (List Int) → List Bool → List Int → List Int → List Int → List Int → List Int → List Int → List (List Int) → List Bool → List (List Int) → List Bool → Option R) (T : Option R)
  (hT : ∀ (q' : Q) (row : List Int), Bg (dq C N f id) (Gq C N f) (clx σ) k i 256 q' → Ext q q' → RowS (dq C N f id) (FL σ 256) q' i (nf σ 256) row → Ke (i : Int) C N E v80 l v82 (castF (FL σ 256)) (fnd q') row v86 v87 v88 v89 = T) :
  yy26_l22 kf k0 Ke (i : Int) 0 C N E v80 l v82 (castF (FL σ 256)) (fnd q) ([] : List Int) v86 v87 v88 v89 = T := by
 have hnf := nf_le σ 256
 have hN := h.nl; have hk2 := h.k2; have hl1 := hl.1
 refine loop_all (fun kk a (acc : Q × List Int) => yy26_l22 kf kk Ke (i : Int) (a : Int) C N E v80 l v82 (castF (FL σ 256)) (fnd acc.1) acc.2 v86 v87 v88 v89) T (nf σ 256) 2500
  (fun a acc => Bg (dq C N f id) (Gq C N f) (clx σ) k i (posn σ a) acc.1 ∧ Ext q acc.1 ∧ RowS (dq C N f id) (FL σ 256) acc.1 i a acc.2) ?_ ?_ (nf σ 256) k0 0 (q, []) (by omega) (by omega)
  ⟨by rw [posn_zero]; exact hb, Ext.refl q, rfl, fun c hc => by omega⟩
 ·rintro kk ⟨q', row⟩ ⟨h1, h2, h3⟩
  dsimp only at h1 h2 h3 ⊢
  rw [yy26_l22]
  unfold yy26_l22_b
  rw [castF_len, FL_len, decide_eq_false (show ¬ (((nf σ 256 : Nat) : Int) < ((nf σ 256 : Nat) : Int)) by omega), cond_false]
  have : posn σ (nf σ 256) = 256 := by unfold posn; rw [if_neg (by omega)]
  rw [this] at h1
  exact hT q' row h1 h2 h3
 ·rintro kk a ⟨q', row⟩ hB ha ⟨h1, h2, h3⟩ hrest
  dsimp only at h1 h2 h3 hrest ⊢
  obtain ⟨g1, g2, g3, g4⟩ := posn_spec ha
  have hgap := fun g (z1 : posn σ a + 1 ≤ g) (z2 : g < posn σ (a + 1)) (z3 : g < 256) => posn_gap ha z1 z2 z3
  have hple := posn_le ha
  generalize hg : posn σ a = g at g1 g2 g3 g4 h1 hgap hple
  have hi' : i < q'.length := by have := h2.len; omega
  have hsz := h1.size
  obtain ⟨s1, _, _, _⟩ := h1.lt _ (q_mem hi')
  dsimp only at s1
  generalize hs : qs q' i = s at s1
  obtain ⟨c1, c2⟩ := h.cls_lt g g2
  obtain ⟨hrow, hrs⟩ := h.row s s1
  obtain ⟨x1, x2⟩ := h.row_lt s1 c1
  have hdl : dl C N s g = ((N.getD s []).getD (C.getD g 0).toNat 0).toNat := rfl
  rw [← hdl] at x1 x2
  have hdq : dq C N f id (qs q' i) g = f (dl C N s g) := by rw [hs]; rfl
  generalize hcc : (C.getD g 0).toNat = cc at c1 c2 x2
  generalize hxx : dl C N s g = x at x1 x2 hdq
  have hcl : C.length = 256 := h.cl
  rw [yy26_l22]
  unfold yy26_l22_b
  dsimp only
  rw [castF_len, FL_len, decide_eq_true (show (a : Int) < ((nf σ 256 : Nat) : Int) by omega), cond_true, gdd (by omega), gdd (by rw [fnd_len]; omega), Int.toNat_natCast, fnd_getD hi', hs, gdd (by omega), gdd (by omega), gdd (by omega), gd_true rfl, Int.toNat_natCast, Int.toNat_natCast, castF_getD, ← g1, gdd (by omega), gdd (by omega), Int.toNat_natCast, c2,
   gdd (by omega), gdd (by omega), Int.toNat_natCast, x2, gdd (by omega), gdd (by omega), Int.toNat_natCast, hl.2 x x1]
  refine l26_ok kf kk q' (by omega) (by omega) (f x) _ _ _ _ _ _ _ _ _ _ _ _ _ _ _ T fun j hj => ?_
  have hskip : ∀ q2, Bg (dq C N f id) (Gq C N f) (clx σ) k i (g + 1) q2 → Bg (dq C N f id) (Gq C N f) (clx σ) k i (posn σ (a + 1)) q2 := fun q2 z => z.skip _ hple fun u u1 u2 u3 u4 => by
   have := hgap u u1 u2 u3
   rw [clx_rep.1 u4] at this
   cases this
  have hrl := h3.1
  rw [wi_1 a (by omega), fnd_len]
  rcases hj with ⟨j1, j2⟩ | ⟨j1, j2⟩
  ·rw [decide_eq_false (show ¬ ((j : Int) = (q'.length : Int)) by omega), cond_false, gdd (by rw [hrl, small_eq]; simp; omega)]
   exact hrest (q', row ++ [(j : Int)]) ⟨hskip _ (h1.old hS hi' g2 (clx_rep.2 g3) ⟨_, q_mem j1, by rw [hdq]; exact j2⟩), h2, h3.snoc j1 (by rw [j2, ← g1, hdq])⟩
  ·subst j1
   have hnew := h1.new hS hi' g2 (clx_rep.2 g3) (by rw [hdq]; exact j2)
   rw [hdq] at hnew
   rw [decide_eq_true rfl, cond_true, gdd (by rw [small_eq]; simp; omega), gdd (by rw [hrl, small_eq]; simp; omega)]
   have hsn := fnd_snoc q' (f x, qw q' i ++ [g])
   dsimp only at hsn
   rw [hsn]
   exact hrest (q' ++ [(f x, qw q' i ++ [g])], row ++ [(q'.length : Int)]) ⟨hskip _ hnew, h2.snoc _, (h3.grow ((Ext.refl q').snoc _) hi').snoc (by rw [List.length_append]; simp) (by rw [qs_new, qs_old hi', ← g1, hdq])⟩
theorem l18_ok (h : Mch C N E k m) {f : Nat → Nat} {l : List Int} (hl : PL k f l) (hf0 : f 0 = 0) {σ : Nat → List Nat} (hS : Stp (dq C N f id) (Gq C N f) (clx σ) k) (kf : Nat) (hkf : 20000 ≤ kf) (v66 v68 : List Int) (v71 : List (List Int)) (v72 : List Bool)
  (Ke : List Int → List Int → List (List Int) → List Bool → List (List Int) → List Bool → Option R) (T : Option R)
  (hT : ∀ (q : Q) (N' : List (List Int)) (E' : List Bool), Bg (dq C N f id) (Gq C N f) (clx σ) k q.length 0 q → N'.length = q.length → (∀ c, c < q.length → RowS (dq C N f id) (FL σ 256) q c (nf σ 256) (N'.getD c [])) → E'.length = q.length → (∀ c, c < q.length → E'.getD c false = E.getD (qs q c) false) → Ke v66 v68 v71 v72 N' E' = T) :
  yy26_l18 kf kf Ke 0 C N E v66 l v68 (castF (FL σ 256)) ([(0 : Int)] : List Int) v71 v72 ([] : List (List Int)) ([] : List Bool) = T := by
 have hk2 := h.k2; have hE := h.el
 refine loop_meas (fun kk (acc : Nat × Q × List (List Int) × List Bool) => yy26_l18 kf kk Ke (acc.1 : Int) C N E v66 l v68 (castF (FL σ 256)) (fnd acc.2.1) v71 v72 acc.2.2.1 acc.2.2.2) T (fun acc => k + 1 - acc.1) 4000
  (fun acc => Bg (dq C N f id) (Gq C N f) (clx σ) k acc.1 0 acc.2.1 ∧ acc.2.2.1.length = acc.1 ∧ (∀ c, c < acc.1 → RowS (dq C N f id) (FL σ 256) acc.2.1 c (nf σ 256) (acc.2.2.1.getD c [])) ∧ acc.2.2.2.length = acc.1 ∧ (∀ c, c < acc.1 → acc.2.2.2.getD c false = E.getD (qs acc.2.1 c) false)) ?_ kf (0, [(0, [])], [], []) (by simp only; omega)
  ⟨Bg.start hS, rfl, fun c hc => by simp only at hc; omega, rfl, fun c hc => by simp only at hc; omega⟩
 rintro kk ⟨i, q, N', E'⟩ hB ⟨h1, h2, h3, h4, h5⟩ hrest
 dsimp only at h1 h2 h3 h4 h5 hrest ⊢
 have hsz := h1.size
 have hple := h1.ple
 rw [yy26_l18]
 unfold yy26_l18_b
 by_cases hi : i < q.length
 rotate_left
 ·have : i = q.length := by omega
  subst this
  rw [fnd_len, decide_eq_false (show ¬ ((q.length : Int) < (q.length : Int)) by omega), cond_false]
  exact hT q N' E' h1 h2 h3 h4 h5
 rw [fnd_len, decide_eq_true (show (i : Int) < (q.length : Int) by omega), cond_true]
 refine l22_ok h hl hS kf kk (by omega) i q h1 hi _ _ _ _ _ _ _ T fun q' row r1 r2 r3 => ?_
 have hlen := r2.len
 have hi' : i < q'.length := by omega
 have hsz' := r1.size
 obtain ⟨s1, _, _, _⟩ := r1.lt _ (q_mem hi')
 dsimp only at s1
 rw [gdd (by rw [h2, small_eq]; simp; omega), gdd (by omega), gdd (by rw [fnd_len]; omega), Int.toNat_natCast, fnd_getD hi', gdd (by omega), gdd (by omega), Int.toNat_natCast, gdd (by rw [h4, small_eq]; simp; omega), wi_1 i (by omega)]
 refine hrest (i + 1, q', N' ++ [row], E' ++ [E.getD (qs q' i) false]) ⟨r1.next hi', by simp only; rw [List.length_append, h2]; rfl, fun c hc => ?_, by simp only; rw [List.length_append, h4]; rfl, fun c hc => ?_⟩ (by simp only; omega)
 ·dsimp only at hc ⊢
  rw [snoc_getD, h2]
  by_cases hci : c < i
  ·rw [if_pos hci]
   exact (h3 c hci).grow r2 (by omega)
  ·have : c = i := by omega
   subst this
   rw [if_neg hci, if_pos rfl]
   exact r3
 ·dsimp only at hc ⊢
  rw [snoc_getD, h4]
  by_cases hci : c < i
  ·rw [if_pos hci, h5 c hci, r2.qs (by omega)]
  ·have : c = i := by omega
   subst this
   rw [if_neg hci, if_pos rfl]
end
end Go.Ab.T

/- The reference's least machine is the language's own form; the law LeastMade. -/
namespace Go.Ab.T
open Go Go.Ab
set_option linter.unusedVariables false
set_option linter.unusedSimpArgs false
set_option linter.unusedSectionVars false
section
variable {R : Type} {C : List Int} {N : List (List Int)} {E : List Bool} {k m : Nat}
def Low (C : List Int) (N : List (List Int)) (E : List Bool) (k : Nat) (f : Nat → Nat) : Prop := ∀ s, s < k → f s ≤ s ∧ eqs C N E (f s) s ∧ ∀ t, t < k → eqs C N E t s → f s ≤ t
theorem gapless_ix {α : Type} [DecidableEq α] {σ : Nat → α} {C : List Int} (h : ∀ b, b < 256 → C.getD b 0 = ((ix σ b : Nat) : Int)) : gapless C := by
 refine gapless_of (m := nf σ 256) (fun b hb => ⟨_, ix_lt hb, h b hb⟩) fun a ha => ?_
 rw [← FL_len] at ha
 obtain ⟨f1, f2⟩ := FL_mem ha
 refine ⟨_, f1, ?_⟩
 rw [h _ f1, ix_fst f2, FL_idx 256 a ha]
theorem Low.unique {f g : Nat → Nat} (hf : Low C N E k f) (hg : Low C N E k g) {s : Nat} (hs : s < k) : f s = g s := by
 obtain ⟨a1, a2, a3⟩ := hf s hs
 obtain ⟨b1, b2, b3⟩ := hg s hs
 have c1 := a3 (g s) (by omega) b2
 have c2 := b3 (f s) (by omega) a2
 omega
theorem J_exc {p r : Nat → Nat} {cl : Nat → Int} {q : Q} (hq : Bg (dq C N p r) (Gq C N p) cl k q.length 0 q) : ∃ J, JOk C N p r q J := by
 have : ∀ x : Nat × Nat, ∃ j, x.1 < q.length → x.2 < 256 → j < q.length ∧ qs q j = dq C N p r (qs q x.1) x.2 := by
  rintro ⟨i, b⟩
  by_cases hi : i < q.length
  ·by_cases hb : b < 256
   ·obtain ⟨x, hx, h1, _⟩ := hq.done i hi b hb
    obtain ⟨j, hj, rfl⟩ := q_of_mem hx
    exact ⟨j, fun _ _ => ⟨hj, h1⟩⟩
   ·exact ⟨0, fun _ h => absurd h hb⟩
  ·exact ⟨0, fun h => absurd h hi⟩
 obtain ⟨f, hf⟩ := Classical.axiomOfChoice this
 exact ⟨fun i b => f (i, b), fun i b hi hb => hf (i, b) hi hb⟩
theorem rleast_w (h : Mch C N E k m) (kf : Nat) (hkf : 20000 ≤ kf) (K : List Int → List (List Int) → List Bool → Option R) (T : Option R)
  (hT : ∀ (C' : List Int) (N' : List (List Int)) (E' : List Bool), C'.length = 256 → gapless C' → (gapless C → ∃ n' m', Canon C' N' E' n' m' ∧ Lang C N E C' N' E') → K C' N' E' = T) : yy26 kf C N E K = T := by
 unfold yy26 yy26_b
 have hk1 := h.k1
 rw [rmay_ok h kf (by omega), Bool.not_true, cond_false]
 refine rparts_ok h kf hkf _ T fun f l hl hprt hidem => ?_
 have hp : Pts C N E k f id := ⟨hprt, fun s hs => ⟨hprt.lt s hs, (hidem s hs).2⟩⟩
 refine rreach_ok h kf hkf _ T fun t ht htr => ?_
 refine l8r_ok h kf (by omega) f l hl t ht _ _ _ _ _ _ T fun C' hC1 hC2 => ?_
 have hl0 : l.getD 0 0 = 0 := by rw [hl.2 0 hk1, hp.zero]; rfl
 rw [gdd (by rw [hl.1]; omega), hl0]
 have hcol : ∀ b b', b < 256 → b' < 256 → tau C N f t k b = tau C N f t k b' → ∀ s, s < k → rch C N s → f (dl C N s b) = f (dl C N s b') := by
  intro b b' hb hb' he s hs hr
  exact col_iff.1 he s hs ((htr s hs).2 hr)
 generalize hσ : tau C N f t k = σ at hC2 hcol
 have hS : Stp (dq C N f id) (Gq C N f) (clx σ) k := stp_q h hp (clx σ) fun P b g hG hg hb hc => by
  obtain ⟨v, hv, rfl⟩ := hG
  have hlt := h.dls_lt h.k1 hv
  rw [dq_p h hp hlt hg, dq_p h hp hlt hb]
  exact hcol g b hg hb (clx_iff.1 hc) _ hlt (rch_by h hv)
 refine l18_ok h hl hp.zero hS kf hkf _ _ _ _ _ T fun q N' E' hq hN' hrow hE' hends => ?_
 refine hT C' N' E' hC1 (gapless_ix hC2) fun hgap => ?_
 obtain ⟨J, hJ⟩ := J_exc hq
 have hker : Ker σ (wayN q J) 256 := by
  intro b b' hb hb'
  rw [wayN_eq]
  constructor
  ·intro he i hi
   refine hq.inj_iff (hJ i b hi hb).1 (hJ i b' hi hb').1 ?_
   rw [(hJ i b hi hb).2, (hJ i b' hi hb').2]
   obtain ⟨s1, s2, _, _⟩ := hq.lt _ (q_mem hi)
   exact hS.cl _ _ _ s1 s2 hb hb' (clx_iff.2 he)
  ·intro he
   rw [← hσ]
   refine col_iff.2 fun s hs hts => ?_
   obtain ⟨v, hv, rfl⟩ := rch_of h hgap ((htr s hs).1 hts)
   obtain ⟨i, hi, hqi, _⟩ := hq.all v.length v rfl hv
   have hrun := run_p h hp v 0 h.k1 hv
   rw [hp.zero] at hrun
   rw [hrun] at hqi
   have e1 := (hJ i b hi hb).2
   have e2 := (hJ i b' hi hb').2
   rw [hqi, dq_p h hp hs hb] at e1
   rw [hqi, dq_p h hp hs hb'] at e2
   show f (dl C N (dls C N 0 v) b) = f (dl C N (dls C N 0 v) b')
   rw [← e1, ← e2, he i hi]
 have hlaid := laid_of h hp hq hJ (C' := C') (N' := N') (E' := E') ⟨hC1, fun b hb => by rw [hC2 b hb, hker.ix hb]⟩ hN' (fun i hi => by
  obtain ⟨r1, r2⟩ := hrow i hi
  refine ⟨by rw [r1, hker.nf 256 (Nat.le_refl _)], fun g hg hfst => ?_⟩
  have hfσ : fstO σ g = true := by rw [hker.fst hg]; exact hfst
  have hlt := nf_lt (c := 256) hfσ hg
  obtain ⟨j, j1, j2, j3⟩ := r2 _ hlt
  rw [FL_getD σ 256 g hg hfσ] at j3
  rw [← hker.nf g (by omega), j2]
  have : j = J i g := hq.inj_iff j1 (hJ i g hi hg).1 (by rw [j3, (hJ i g hi hg).2])
  rw [this]) hE' hends
 obtain ⟨_, _, z1, z2⟩ := laid_canon h hp hq hlaid
 exact ⟨_, _, z1 hgap, z2⟩
theorem rleast_ok (h : Mch C N E k m) (hg : gapless C) (kf : Nat) (hkf : 20000 ≤ kf) (K : List Int → List (List Int) → List Bool → Option R) (T : Option R)
  (hT : ∀ (C' : List Int) (N' : List (List Int)) (E' : List Bool) (n' m' : Nat), Canon C' N' E' n' m' → Lang C N E C' N' E' → K C' N' E' = T) : yy26 kf C N E K = T :=
 rleast_w h kf hkf K T fun C' N' E' _ _ hc => by
  obtain ⟨n', m', h1, h2⟩ := hc hg
  exact hT C' N' E' n' m' h1 h2
end
end Go.Ab.T

/- Images: the laws ImageOnly, ImageTurned. -/
namespace Go.Ab.T
open Go Go.Ab
set_option linter.unusedVariables false
set_option linter.unusedSimpArgs false
section
variable {R : Type} {C : List Int} {N : List (List Int)} {E : List Bool} {k m : Nat}
theorem least_ex (h : Mch C N E k m) (hg : gapless C) : ∃ C' N' E' n' m', Canon C' N' E' n' m' ∧ Lang C N E C' N' E' ∧ n' ≤ k ∧ m' ≤ m := by
 refine Classical.byContradiction fun hno => ?_
 have key : ∀ T : Option Unit, yy10 20000 C N E (fun _ _ _ => none) = T := fun T => least_ok h hg 20000 (by omega) _ T fun C' N' E' n' m' h1 h2 h3 h4 => absurd ⟨C', N', E', n', m', h1, h2, h3, h4⟩ hno
 have h1 := key none
 rw [key (some ())] at h1
 cases h1
theorem rleast_n (h : Mch C N E k m) (hg : gapless C) (kf : Nat) (hkf : 20000 ≤ kf) (K : List Int → List (List Int) → List Bool → Option R) (T : Option R)
  (hT : ∀ (C' : List Int) (N' : List (List Int)) (E' : List Bool) (n' m' : Nat), Canon C' N' E' n' m' → Lang C N E C' N' E' → n' ≤ k → K C' N' E' = T) : yy26 kf C N E K = T := by
 obtain ⟨C1, N1, E1, n1, m1, c1, c2, c3, _⟩ := least_ex h hg
 refine rleast_ok h hg kf hkf K T fun C' N' E' n' m' hc hL => hT C' N' E' n' m' hc hL ?_
 obtain ⟨q1, q2, q3⟩ := hc.unique c1 (hL.symm.trans c2)
 have e1 := hc.mch.nl; have e2 := c1.mch.nl
 rw [q2] at e1
 omega
end
end Go.Ab.T

/- The reference's shortest word. -/
namespace Go.Ab.T
open Go Go.Ab
set_option linter.unusedVariables false
set_option linter.unusedSimpArgs false
def waits (q : Q) (p : Nat) : List Int := (q.drop p).map fun x => (x.1 : Int)
theorem waits_len (q : Q) (p : Nat) : (waits q p).length = q.length - p := by unfold waits; simp
theorem waits_snoc {q : Q} {p : Nat} (h : p ≤ q.length) (x : Nat × List Nat) : waits (q ++ [x]) p = waits q p ++ [(x.1 : Int)] := by
 unfold waits
 rw [List.drop_append_of_le_length h, List.map_append]; rfl
section
variable {R : Type} {C : List Int} {N : List (List Int)} {E : List Bool} {k m : Nat}
theorem rep_unique {f g : Nat} (hf : isRep C f) (hg : isRep C g) (h : C.getD f 0 = C.getD g 0) : f = g := by
 rcases Nat.lt_trichotomy f g with q | q | q
 ·exact absurd h (hg f q)
 ·exact q
 ·exact absurd h.symm (hf g q)
theorem rfirst_ok (h : Mch C N E k m) (kf : Nat) (hkf : 1000 ≤ kf) (K : List Int → Option R) (T : Option R)
  (hT : ∀ fi : List Int, fi.length = m → (∀ b, b < 256 → ∃ f, f ≤ b ∧ isRep C f ∧ C.getD f 0 = C.getD b 0 ∧ fi.getD (C.getD b 0).toNat 0 = (f : Int)) → K fi = T) : yy34 kf C (m : Int) K = T := by
 unfold yy34 yy34_b
 have hm2 := h.m2
 rw [gdd (by omega), gdd (by omega), gdd (by rw [small_eq]; omega), Int.toNat_natCast]
 refine loop_inv (fun kk i (acc : List Int) => yy34_l3 kf kk C (fun v6 => K v6) (255 - (i : Int)) acc) T 256 0
  (fun i acc => acc.length = m ∧ ∀ b, 256 - i ≤ b → b < 256 → ∃ f, 256 - i ≤ f ∧ f ≤ b ∧ (∀ c, 256 - i ≤ c → c < f → C.getD c 0 ≠ C.getD f 0) ∧ C.getD f 0 = C.getD b 0 ∧ acc.getD (C.getD b 0).toNat 0 = (f : Int)) ?_ ?_ 256 kf 0 _ (by omega) (by omega)
  ⟨List.length_replicate, fun b hb hb2 => by omega⟩
 ·rintro kk fi ⟨h1, h2⟩
  rw [yy34_l3]
  unfold yy34_l3_b
  rw [decide_eq_false (show ¬ ((0 : Int) ≤ 255 - ((256 : Nat) : Int)) by omega), cond_false]
  refine hT fi h1 fun b hb => ?_
  obtain ⟨f, f1, f2, f3, f4, f5⟩ := h2 b (by omega) hb
  exact ⟨f, f2, fun c hc => f3 c (by omega) hc, f4, f5⟩
 ·rintro kk i acc _ hi ⟨h1, h2⟩
  left
  obtain ⟨j, hj⟩ : ∃ j, j = 255 - i := ⟨_, rfl⟩
  have hji : (255 - (i : Int)) = (j : Int) := by omega
  obtain ⟨c1, c2⟩ := h.cls_lt j (by omega)
  generalize hcc : (C.getD j 0).toNat = cc at c1 c2
  refine ⟨acc.set cc (j : Int), ⟨by rw [List.length_set]; exact h1, fun b hb hb2 => ?_⟩, ?_⟩
  ·have key : (acc.set cc (j : Int)).getD (C.getD b 0).toNat 0 = if cc = (C.getD b 0).toNat ∧ (C.getD b 0).toNat < acc.length then (j : Int) else acc.getD (C.getD b 0).toNat 0 := getD_set' _ _ _ _ _
   obtain ⟨d1, d2⟩ := h.cls_lt b hb2
   by_cases hbc : cc = (C.getD b 0).toNat
   ·rw [key, if_pos ⟨hbc, by omega⟩]
    exact ⟨j, by omega, by omega, fun c hc1 hc2 => by omega, by rw [c2, d2, hbc], rfl⟩
   ·rw [key, if_neg (fun q => hbc q.1)]
    have hbj : b ≠ j := by rintro rfl; exact hbc hcc.symm
    obtain ⟨f, f1, f2, f3, f4, f5⟩ := h2 b (by omega) hb2
    refine ⟨f, by omega, f2, fun c hc1 hc2 => ?_, f4, f5⟩
    by_cases hcj : c = j
    ·subst hcj
     rw [c2, f4, d2]
     intro hq
     exact hbc (by omega)
    ·exact f3 c (by omega) hc2
  ·rw [yy34_l3]
   unfold yy34_l3_b
   have hw8 : IntKind.u8.wrap (j : Int) = (j : Int) := by rw [IntKind.wrap_u8]; omega
   have hw : IntKind.i64.wrap ((j : Int) - 1) = 255 - ((i + 1 : Nat) : Int) := by rw [IntKind.wrap_i64]; omega
   rw [hji, decide_eq_true (show (0 : Int) ≤ (j : Int) by omega), cond_true, gd_true rfl, gdd (by omega), Int.toNat_natCast, c2, gdd (by omega), gdd (by omega), Int.toNat_natCast, hw8, hw]
def wdsFrom (q : Q) (p : Nat) : List (List Int) := (q.drop p).map fun x => cast x.2
theorem wdsFrom_getD {q : Q} {p i : Nat} (h : p + i < q.length) : (wdsFrom q p).getD i [] = cast (qw q (p + i)) := by
 unfold wdsFrom qw
 rw [List.getD_eq_getElem?_getD, List.getElem?_map, List.getElem?_drop, List.getD_eq_getElem?_getD, List.getElem?_eq_getElem h]
 rfl
theorem waits_getD {q : Q} {p i : Nat} (h : p + i < q.length) : (waits q p).getD i 0 = ((qs q (p + i) : Nat) : Int) := by
 unfold waits qs
 rw [List.getD_eq_getElem?_getD, List.getElem?_map, List.getElem?_drop, List.getD_eq_getElem?_getD, List.getElem?_eq_getElem h]
 rfl
theorem wdsFrom_len (q : Q) (p : Nat) : (wdsFrom q p).length = q.length - p := by unfold wdsFrom; simp
theorem wdsFrom_snoc {q : Q} {p : Nat} (h : p ≤ q.length) (x : Nat × List Nat) : wdsFrom (q ++ [x]) p = wdsFrom q p ++ [cast x.2] := by
 unfold wdsFrom
 rw [List.drop_append_of_le_length h, List.map_append]; rfl
def Seen (k : Nat) (q : Q) (t : List Bool) : Prop := t.length = k ∧ ∀ s, s < k → (t.getD s false = true ↔ ∃ x ∈ q, x.1 = s)
theorem Seen.new {q : Q} {t : List Bool} (h : Seen k q t) {s : Nat} (hs : s < k) (w : List Nat) : Seen k (q ++ [(s, w)]) (t.set s true) := by
 refine ⟨by rw [List.length_set]; exact h.1, fun u hu => ?_⟩
 have key : (t.set s true).getD u false = if s = u ∧ u < t.length then true else t.getD u false := getD_set' _ _ _ _ _
 rw [key]
 by_cases hsu : s = u
 ·subst hsu
  rw [if_pos ⟨rfl, by have := h.1; omega⟩]
  exact ⟨fun _ => ⟨(s, w), by simp, rfl⟩, fun _ => rfl⟩
 ·rw [if_neg (fun q => hsu q.1), h.2 u hu]
  constructor
  ·rintro ⟨x, hx, he⟩; exact ⟨x, List.mem_append_left _ hx, he⟩
  ·rintro ⟨x, hx, he⟩
   rcases List.mem_append.1 hx with hx | hx
   ·exact ⟨x, hx, he⟩
   ·rw [List.mem_singleton] at hx; subst hx; exact absurd he hsu
def FirstT (C : List Int) (m : Nat) (fi : List Int) : Prop := fi.length = m ∧ ∀ b, b < 256 → ∃ f, f ≤ b ∧ isRep C f ∧ C.getD f 0 = C.getD b 0 ∧ fi.getD (C.getD b 0).toNat 0 = (f : Int)
theorem rs19_ok (h : Mch C N E k m) (kf k0 : Nat) (hk : 300 < k0) (fi : List Int) (hfi : FirstT C m fi) (q0 : Q) (p e i : Nat) (he : e = q0.length) (hi : p + i < e) (hek : e ≤ k) (q : Q) (t : List Bool)
  (hb : Bfs C N E k (p + i) 0 q) (hs : Seen k q t) (hpre : ∀ j, j < e → qs q j = qs q0 j ∧ qw q j = qw q0 j) (hle : e ≤ q.length)
  (Ke : Int → (List Int) → (List (List Int)) → (List Bool) → (List Int) → (List Int) → (List (List Int)) → (List Bool) → (List Int) → (List (List Int)) → Option R) (T : Option R)
  (hT : ∀ (q' : Q) (t' : List Bool), Bfs C N E k (p + i) 256 q' → Seen k q' t' → (∀ j, j < e → qs q' j = qs q0 j ∧ qw q' j = qw q0 j) → e ≤ q'.length → Ke (i : Int) C N E fi (waits q0 p) (wdsFrom q0 p) t' (waits q' e) (wdsFrom q' e) = T) :
  yy31_l19 kf k0 (i : Int) C N E fi (waits q0 p) (wdsFrom q0 p) Ke 0 t (waits q e) (wdsFrom q e) = T := by
 have hN := h.nl; have hm2 := h.m2; have hk2 := h.k2
 refine loop_all (fun kk b (acc : Q × List Bool) => yy31_l19 kf kk (i : Int) C N E fi (waits q0 p) (wdsFrom q0 p) Ke (b : Int) acc.2 (waits acc.1 e) (wdsFrom acc.1 e)) T 256 0
  (fun b acc => Bfs C N E k (p + i) b acc.1 ∧ Seen k acc.1 acc.2 ∧ (∀ j, j < e → qs acc.1 j = qs q0 j ∧ qw acc.1 j = qw q0 j) ∧ e ≤ acc.1.length) ?_ ?_ 256 k0 0 (q, t) (by omega) (by omega) ⟨hb, hs, hpre, hle⟩
 ·rintro kk ⟨q', t'⟩ ⟨h1, h2, h3, h4⟩
  simp only at h1 h2 h3 h4
  rw [yy31_l19]
  unfold yy31_l19_b
  rw [decide_eq_false (show ¬ (((256 : Nat) : Int) < 256) by omega), cond_false]
  exact hT q' t' h1 h2 h3 h4
 ·rintro kk b ⟨q', t'⟩ _ hb ⟨h1, h2, h3, h4⟩ hrest
  simp only at h1 h2 h3 h4
  have hpi : p + i < q'.length := by omega
  obtain ⟨s1, s2, s3⟩ := h1.lt _ (q_mem hpi)
  simp only at s1
  have hsq := h3 (p + i) hi
  have hw0 : (waits q0 p).getD i 0 = ((qs q' (p + i) : Nat) : Int) := by rw [waits_getD (by omega), hsq.1]
  have hx0 : (wdsFrom q0 p).getD i [] = cast (qw q' (p + i)) := by rw [wdsFrom_getD (by omega), hsq.2]
  have hwl := h1.len (p + i) hpi
  have hsz := h1.size
  have hqq : qs q' (p + i) = qs q' (p + i) := rfl
  generalize hss : qs q' (p + i) = s at s1 hw0
  obtain ⟨c1, c2⟩ := h.cls_lt b hb
  have hdl : dl C N s b = ((N.getD s []).getD (C.getD b 0).toNat 0).toNat := rfl
  obtain ⟨t1, t2⟩ := h.row_lt s1 c1
  rw [← hdl] at t1 t2
  have hrow := h.row s s1
  obtain ⟨f, f1, f2, f3, f4⟩ := hfi.2 b hb
  generalize hcc : (C.getD b 0).toNat = cc at c1 c2 t2 hdl f4
  generalize htt : dl C N s b = u at t1 t2
  have hd : decide ((b : Int) < 256) = true := decide_eq_true (by omega)
  have g1 : decide (0 ≤ (b : Int)) = true := decide_eq_true (by omega)
  have g2 : decide (0 ≤ (i : Int)) = true := decide_eq_true (by omega)
  have g3 : decide ((i : Int) < ((waits q0 p).length : Int)) = true := decide_eq_true (by rw [waits_len]; omega)
  have g4 : decide (0 ≤ (s : Int)) = true := decide_eq_true (by omega)
  have g5 : decide ((s : Int) < (N.length : Int)) = true := decide_eq_true (by omega)
  have g6 : decide (0 ≤ (cc : Int)) = true := decide_eq_true (by omega)
  have g7 : decide ((cc : Int) < ((N.getD s []).length : Int)) = true := decide_eq_true (by omega)
  have g8 : decide ((cc : Int) < (fi.length : Int)) = true := decide_eq_true (by have := hfi.1; omega)
  have hwf : IntKind.i64.wrap (f : Int) = (f : Int) := wi_n f (by omega)
  have hw := wi_1 b (show b < 4000000000000000000 by omega)
  rw [yy31_l19]
  unfold yy31_l19_b
  rw [hd, cond_true]
  simp only [g1, hd, g2, g3, gd, cond_true, Int.toNat_natCast, hw0, g4, g5, c2, g6, g7, g8, f4, hwf, t2]
  by_cases hfb : f = b
  ·subst hfb
   have gu1 : decide (0 ≤ (u : Int)) = true := decide_eq_true (by omega)
   have gu2 : decide ((u : Int) < (t'.length : Int)) = true := decide_eq_true (by have := h2.1; omega)
   simp only [decide_true, cond_true, gu1, gu2]
   cases hst : t'.getD u false with
   | true =>
    simp only [Bool.not_true, cond_false, hw]
    exact hrest (q', t') ⟨h1.old hpi hb f2 (by rw [hss, htt]; exact (h2.2 u t1).1 hst), h2, h3, h4⟩
   | false =>
    have hm' : ∀ x ∈ q', x.1 ≠ u := fun x hx he' => by
     have := (h2.2 u t1).2 ⟨x, hx, he'⟩
     rw [hst] at this; cases this
    have hnew := h1.new h hpi hb f2 (by rw [hss, htt]; exact hm')
    rw [hss, htt] at hnew
    have hw8 : IntKind.u8.wrap (f : Int) = (f : Int) := by rw [IntKind.wrap_u8]; omega
    have g9 : decide ((waits q' e).length + ([(u : Int)] : List Int).length < SMALL) = true := decide_eq_true (by rw [small_eq, waits_len]; simp; omega)
    have g10 : decide ((i : Int) < ((wdsFrom q0 p).length : Int)) = true := decide_eq_true (by rw [wdsFrom_len]; omega)
    have g11 : decide (([] : List Int).length + (cast (qw q' (p + i))).length < SMALL) = true := decide_eq_true (by rw [small_eq, cast_len]; simp; omega)
    have g12 : decide ((cast (qw q' (p + i))).length + ([(f : Int)] : List Int).length < SMALL) = true := decide_eq_true (by rw [small_eq, cast_len]; simp; omega)
    have g13 : ∀ x : List Int, decide ((wdsFrom q' e).length + ([x] : List (List Int)).length < SMALL) = true := fun x => decide_eq_true (by rw [small_eq, wdsFrom_len]; simp; omega)
    have := hrest (q' ++ [(u, qw q' (p + i) ++ [f])], t'.set u true) ⟨hnew, h2.new t1 _, fun j hj => by rw [qs_old (by omega), qw_old (by omega)]; exact h3 j hj, by simp; omega⟩
    simp only at this
    rw [waits_snoc h4, wdsFrom_snoc h4] at this
    have hcs : cast (qw q' (p + i) ++ [f]) = cast (qw q' (p + i)) ++ [(f : Int)] := by unfold cast; simp
    rw [hcs] at this
    simp only [Bool.not_false, cond_true, g9, g10, hx0, g11, List.nil_append, hw8, g12, g13, hw]
    exact this
  ·have hnr : ¬ isRep C b := fun hr => hfb (rep_unique f2 hr f3)
   rw [decide_eq_false (show ¬ (f : Int) = (b : Int) by omega)]
   simp only [cond_false, hw]
   refine hrest (q', t') ⟨h1.skip (b + 1) (by omega) fun g ga gb _ => ?_, h2, h3, h4⟩
   have : g = b := by omega
   subst this
   exact hnr
theorem rs16_ok (h : Mch C N E k m) (kf k0 : Nat) (hk : k + 400 < k0) (fi : List Int) (hfi : FirstT C m fi) (q0 : Q) (p e : Nat) (he : e = q0.length) (hpe : p ≤ e) (t : List Bool)
  (hb : Bfs C N E k p 0 q0) (hs : Seen k q0 t) (hno : ∀ j, p ≤ j → j < e → en E (qs q0 j) = false)
  (Ke : (List Int) → (List (List Int)) → (List Bool) → (List Int) → (List Bool) → (List Int) → (List (List Int)) → Option R) (T : Option R)
  (hT : ∀ (q' : Q) (t' : List Bool), Bfs C N E k e 0 q' → Seen k q' t' → Ke C N E fi t' (waits q' e) (wdsFrom q' e) = T) :
  yy31_l16 kf k0 Ke 0 C N E fi (waits q0 p) (wdsFrom q0 p) t ([] : List Int) ([] : List (List Int)) = T := by
 have hsz := hb.size
 have hw0 : waits q0 e = [] := by unfold waits; rw [he]; simp
 have hx0 : wdsFrom q0 e = [] := by unfold wdsFrom; rw [he]; simp
 have goal : yy31_l16 kf k0 Ke ((0 : Nat) : Int) C N E fi (waits q0 p) (wdsFrom q0 p) t (waits q0 e) (wdsFrom q0 e) = T := by
  refine loop_all (fun kk i (acc : Q × List Bool) => yy31_l16 kf kk Ke (i : Int) C N E fi (waits q0 p) (wdsFrom q0 p) acc.2 (waits acc.1 e) (wdsFrom acc.1 e)) T (e - p) 320
   (fun i acc => Bfs C N E k (p + i) 0 acc.1 ∧ Seen k acc.1 acc.2 ∧ (∀ j, j < e → qs acc.1 j = qs q0 j ∧ qw acc.1 j = qw q0 j) ∧ e ≤ acc.1.length) ?_ ?_ (e - p) k0 0 (q0, t) (by omega) (by omega) ⟨hb, hs, fun j hj => ⟨rfl, rfl⟩, Nat.le_of_eq he⟩
  ·rintro kk ⟨q', t'⟩ ⟨h1, h2, h3, h4⟩
   simp only at h1 h2 h3 h4
   rw [yy31_l16]
   unfold yy31_l16_b
   rw [decide_eq_false (show ¬ (((e - p : Nat) : Int) < ((waits q0 p).length : Int)) by rw [waits_len]; omega), cond_false]
   exact hT q' t' (by rw [show p + (e - p) = e by omega] at h1; exact h1) h2
  ·rintro kk i ⟨q', t'⟩ hB hi ⟨h1, h2, h3, h4⟩ hrest
   simp only at h1 h2 h3 h4
   rw [yy31_l16]
   unfold yy31_l16_b
   rw [decide_eq_true (show (i : Int) < ((waits q0 p).length : Int) by rw [waits_len]; omega), cond_true]
   refine rs19_ok h kf kk (by omega) fi hfi q0 p e i he (by omega) (by omega) q' t' h1 h2 h3 h4 _ T fun q'' t'' z1 z2 z3 z4 => ?_
   rw [wi_1 i (by have := h.k2; omega)]
   refine hrest (q'', t'') ⟨?_, z2, z3, z4⟩
   have := z1.next (by omega) (by rw [(z3 (p + i) (by omega)).1]; exact hno (p + i) (by omega) (by omega))
   rw [show p + (i + 1) = p + i + 1 by omega]
   exact this
 rw [hw0, hx0] at goal
 exact goal
theorem rshortest_ok (h : Mch C N E k m) (kf : Nat) (hkf : 20000 ≤ kf) (K : Bool → List Int → Option R) (T : Option R)
  (hT : ∀ is w, IsShort C N E k is w → K is (cast w) = T) : yy31 kf C N E K = T := by
 unfold yy31 yy31_b
 have hk1 := h.k1; have hk2 := h.k2; have hN := h.nl; have hE := h.el
 rw [rmay_ok h kf (by omega)]
 simp only [Bool.not_true, cond_false]
 rw [rclasses_ok h kf (by omega)]
 refine rfirst_ok h kf (by omega) _ _ fun fi fi1 fi2 => ?_
 rw [gdd (by omega), gdd (by omega), gdd (by rw [small_eq]; omega), gdd (by rw [List.length_replicate]; omega), Int.toNat_natCast, hN]
 refine loop_meas (fun kk (acc : Nat × Q × List Bool) => yy31_l7 kf kk (fun (v79 : Bool) (v80 : List Int) => K v79 v80) (K false ([] : List Int)) C N E fi (waits acc.2.1 acc.1) (wdsFrom acc.2.1 acc.1) acc.2.2) T (fun acc => k + 1 - acc.1) 6000
  (fun acc => Bfs C N E k acc.1 0 acc.2.1 ∧ Seen k acc.2.1 acc.2.2) ?_ kf (0, [(0, [])], (List.replicate k false).set 0 true) (by simp only; omega) ⟨Bfs.start hk1, ?_⟩
 ·rintro kk ⟨p, q, t⟩ hB ⟨h1, h2⟩ hrest
  simp only at h1 h2 hrest ⊢
  have hsz := h1.size
  rw [yy31_l7]
  unfold yy31_l7_b
  by_cases hp : p < q.length
  ·rw [decide_eq_true (show 0 < ((waits q p).length : Int) by rw [waits_len]; omega), cond_true]
   refine loop_all (fun kk2 i (_ : Unit) => yy31_l9 kf kk2 C N E fi (waits q p) (wdsFrom q p) t _ _ (i : Int)) T (q.length - p) 0 (fun i _ => ∀ j, p ≤ j → j < p + i → en E (qs q j) = false) ?_ ?_ (q.length - p) kk 0 () (by omega) (by omega) (by intro j _ _; omega)
   ·intro kk2 _ hno
    rw [yy31_l9]
    unfold yy31_l9_b
    rw [decide_eq_false (show ¬ (((q.length - p : Nat) : Int) < ((waits q p).length : Int)) by rw [waits_len]; omega), cond_false]
    dsimp only
    refine rs16_ok h kf kk (by omega) fi ⟨fi1, fi2⟩ q p q.length rfl h1.ple t h1 h2 (fun j j1 j2 => hno j j1 (by omega)) _ T fun q' t' z1 z2 => ?_
    exact hrest (q.length, q', t') ⟨z1, z2⟩ (by simp only; omega)
   ·intro kk2 i _ _ hi hno hrest2
    have hpi : p + i < q.length := by omega
    obtain ⟨s1, s2, s3⟩ := h1.lt _ (q_mem hpi)
    simp only at s1 s2
    rw [yy31_l9]
    unfold yy31_l9_b
    rw [decide_eq_true (show (i : Int) < ((waits q p).length : Int) by rw [waits_len]; omega), cond_true, gdd (by omega), gd_true rfl, Int.toNat_natCast, waits_getD hpi, gdd (by omega), gdd (by omega), Int.toNat_natCast]
    cases hee : E.getD (qs q (p + i)) false with
    | true =>
     obtain ⟨r1, r2, r3, r4⟩ := h1.found' (p + i) (by omega) hpi (fun j j1 j2 => hno j j1 j2) hee
     rw [cond_true, gdd (by omega), gdd (by rw [wdsFrom_len]; omega), wdsFrom_getD hpi, gdd (by rw [small_eq, cast_len]; simp; omega)]
     exact hT true _ (Or.inl ⟨rfl, r1, r2, r3, r4⟩)
    | false =>
     rw [cond_false, wi_1 i (by omega)]
     refine hrest2 () fun j j1 j2 => ?_
     by_cases hji : j = p + i
     ·subst hji; exact hee
     ·exact hno j j1 (by omega)
  ·rw [decide_eq_false (show ¬ 0 < ((waits q p).length : Int) by rw [waits_len]; omega), cond_false]
   exact hT false [] (Or.inr ⟨rfl, rfl, h1.none hp⟩)
 ·refine ⟨by rw [List.length_set, List.length_replicate], fun s hs => ?_⟩
  have key : ((List.replicate k false).set 0 true).getD s false = if 0 = s ∧ s < (List.replicate k false).length then true else (List.replicate k false).getD s false := getD_set' _ _ _ _ _
  rw [key]
  by_cases h0 : 0 = s
  ·subst h0
   rw [if_pos ⟨rfl, by rw [List.length_replicate]; omega⟩]
   exact ⟨fun _ => ⟨(0, []), by simp, rfl⟩, fun _ => rfl⟩
  ·rw [if_neg (fun q => h0 q.1), getD_rep]
   constructor
   ·intro hq; cases hq
   ·rintro ⟨x, hx, hq⟩
    simp only at hx
    rw [List.mem_singleton] at hx
    subst hx
    exact absurd hq h0
end
end Go.Ab.T

/- Two machines at once: the reference's product. -/
namespace Go.Ab.T
open Go Go.Ab
set_option linter.unusedVariables false
set_option linter.unusedSimpArgs false
def opB (how : Nat) (x y : Bool) : Bool := if how = 1 then x && y else if how = 2 then x || y else if how = 3 then x && !y else !(decide (x = y))
structure Cls2 (A B : List Int) (cl : List Int) (F : List Nat) (c : Nat) : Prop where
 len : cl.length = 256
 le : F.length ≤ c
 get : ∀ i, i < c → ∃ j, j < F.length ∧ cl.getD i 0 = (j : Int) ∧ A.getD (F.getD j 0) 0 = A.getD i 0 ∧ B.getD (F.getD j 0) 0 = B.getD i 0
 inh : ∀ j, j < F.length → F.getD j 0 < c ∧ cl.getD (F.getD j 0) 0 = (j : Int)
section
variable {R : Type} {A : List Int} {NA : List (List Int)} {EA : List Bool} {ka ma : Nat} {B : List Int} {NB : List (List Int)} {EB : List Bool} {kb mb : Nat}
theorem p11_ok (kf k0 : Nat) (hk : 300 < k0) (F : List Nat) (i : Nat) (hi : i < 256) (hF : F.length ≤ i) (hlt : ∀ j, j < F.length → F.getD j 0 < 256) (v27 v28 : Int) (v32 : List (List Int)) (v33 : List Bool) (v35 : List (List Int)) (v36 : List Bool) (v37 v38 : List Int) (v40 : List (List Int)) (v41 : List Bool) (v42 : List (List Int)) (v43 : List Bool)
  (Ke : Int → Int → Int → Int → (List Int) → (List (List Int)) → (List Bool) → (List Int) → (List (List Int)) → (List Bool) → (List Int) → (List Int) → (List Int) → (List (List Int)) → (List Bool) → (List (List Int)) → (List Bool) → Option R) (T : Option R)
  (hT : ∀ j : Nat, (j < F.length ∧ A.getD (F.getD j 0) 0 = A.getD i 0 ∧ B.getD (F.getD j 0) 0 = B.getD i 0) ∨ j = F.length → Ke v27 v28 (i : Int) (j : Int) A v32 v33 B v35 v36 v37 v38 (castF F) v40 v41 v42 v43 = T) :
  yy29_l11 kf k0 v27 v28 (i : Int) A v32 v33 B v35 v36 v37 v38 (castF F) v40 v41 v42 v43 Ke 0 = T := by
 refine loop_inv (fun kk j (_ : Unit) => yy29_l11 kf kk v27 v28 (i : Int) A v32 v33 B v35 v36 v37 v38 (castF F) v40 v41 v42 v43 Ke (j : Int)) T F.length 0 (fun _ _ => True) ?_ ?_ F.length k0 0 () (by omega) (by omega) trivial
 ·intro kk _ _
  rw [yy29_l11]
  unfold yy29_l11_b
  rw [castF_len, decide_eq_false (show ¬ ((F.length : Int) < (F.length : Int)) by omega)]
  exact hT F.length (Or.inr rfl)
 ·intro kk j _ _ hj _
  have hjl := hlt j hj
  have g0 : decide (0 ≤ (j : Int)) = true := decide_eq_true (by omega)
  have g1 : decide ((j : Int) < ((castF F).length : Int)) = true := decide_eq_true (by rw [castF_len]; omega)
  have g2 : decide (0 ≤ ((F.getD j 0 : Nat) : Int)) = true := decide_eq_true (by omega)
  have g3 : decide (((F.getD j 0 : Nat) : Int) < 256) = true := decide_eq_true (by omega)
  have g4 : decide (0 ≤ (i : Int)) = true := decide_eq_true (by omega)
  have g5 : decide ((i : Int) < 256) = true := decide_eq_true (by omega)
  have hw := wi_1 j (show j < 4000000000000000000 by omega)
  by_cases h1 : A.getD (F.getD j 0) 0 = A.getD i 0
  ·by_cases h2 : B.getD (F.getD j 0) 0 = B.getD i 0
   ·right
    rw [yy29_l11]
    unfold yy29_l11_b
    simp only [g0, g1, gd, cond_true, Int.toNat_natCast, castF_getD, g2, g3, g4, g5, decide_eq_true h1, decide_eq_true h2, Bool.not_true, cond_false]
    exact hT j (Or.inl ⟨hj, h1, h2⟩)
   ·left
    refine ⟨(), trivial, ?_⟩
    rw [yy29_l11]
    unfold yy29_l11_b
    simp only [g0, g1, gd, cond_true, Int.toNat_natCast, castF_getD, g2, g3, g4, g5, decide_eq_true h1, decide_eq_false h2, Bool.not_true, Bool.not_false, cond_false, hw]
  ·left
   refine ⟨(), trivial, ?_⟩
   rw [yy29_l11]
   unfold yy29_l11_b
   simp only [g0, g1, gd, cond_true, Int.toNat_natCast, castF_getD, g2, g3, g4, g5, decide_eq_false h1, Bool.not_false, cond_false, hw]
theorem p8_ok (kf k0 : Nat) (hk : 700 < k0) (v11 v12 : Int) (v15 : List (List Int)) (v16 : List Bool) (v18 : List (List Int)) (v19 : List Bool) (v20 : List Int) (v23 : List (List Int)) (v24 : List Bool) (v25 : List (List Int)) (v26 : List Bool)
  (Ke : Int → Int → (List Int) → (List (List Int)) → (List Bool) → (List Int) → (List (List Int)) → (List Bool) → (List Int) → (List Int) → (List Int) → (List (List Int)) → (List Bool) → (List (List Int)) → (List Bool) → Option R) (T : Option R)
  (hT : ∀ (cl : List Int) (F : List Nat), Cls2 A B cl F 256 → Ke v11 v12 A v15 v16 B v18 v19 v20 cl (castF F) v23 v24 v25 v26 = T) :
  yy29_l8 kf k0 Ke v11 v12 0 A v15 v16 B v18 v19 v20 (List.replicate 256 (0 : Int)) ([] : List Int) v23 v24 v25 v26 = T := by
 refine loop_all (fun kk c (acc : List Int × List Nat) => yy29_l8 kf kk Ke v11 v12 (c : Int) A v15 v16 B v18 v19 v20 acc.1 (castF acc.2) v23 v24 v25 v26) T 256 320
  (fun c acc => Cls2 A B acc.1 acc.2 c) ?_ ?_ 256 k0 0 (List.replicate 256 (0 : Int), []) (by omega) (by omega) ⟨List.length_replicate, Nat.le_refl _, fun i hi => by omega, fun j hj => by simp at hj⟩
 ·rintro kk ⟨cl, F⟩ hI
  rw [yy29_l8]
  unfold yy29_l8_b
  rw [decide_eq_false (show ¬ (((256 : Nat) : Int) < 256) by omega), cond_false]
  exact hT cl F hI
 ·rintro kk c ⟨cl, F⟩ hB hc ⟨h1, h2, h3, h4⟩ hrest
  simp only at h1 h2 h3 h4
  rw [yy29_l8]
  unfold yy29_l8_b
  rw [decide_eq_true (show (c : Int) < 256 by omega), cond_true]
  refine p11_ok kf kk (by omega) F c hc h2 (fun j hj => by have := (h4 j hj).1; omega) _ _ _ _ _ _ _ _ _ _ _ _ _ T fun j hj => ?_
  have hw := wi_1 c (show c < 4000000000000000000 by omega)
  have hj256 : j ≤ c := by rcases hj with ⟨hj, _⟩ | hj <;> omega
  have hw8 : IntKind.u8.wrap (j : Int) = (j : Int) := by rw [IntKind.wrap_u8]; omega
  have g1 : decide (0 ≤ (c : Int)) = true := decide_eq_true (by omega)
  have g2 : decide ((c : Int) < 256) = true := decide_eq_true (by omega)
  have key : ∀ (i : Nat) (v : Int), (cl.set c v).getD i 0 = if c = i ∧ i < cl.length then v else cl.getD i 0 := fun i v => getD_set' cl c i v 0
  rcases hj with ⟨hj1, hj2, hj3⟩ | rfl
  ·rw [castF_len, decide_eq_false (show ¬ ((j : Int) = (F.length : Int)) by omega)]
   simp only [cond_false, g1, g2, gd, cond_true, Int.toNat_natCast, hw, hw8]
   refine hrest (cl.set c (j : Int), F) ⟨by rw [List.length_set]; exact h1, by simp only; omega, fun i hi => ?_, fun a ha => ?_⟩
   ·simp only [key]
    by_cases hci : c = i
    ·subst hci
     exact ⟨j, hj1, by rw [if_pos ⟨rfl, by omega⟩], hj2, hj3⟩
    ·rw [if_neg (fun q => hci q.1)]; exact h3 i (by omega)
   ·simp only [key]
    obtain ⟨p1, p2⟩ := h4 a ha
    refine ⟨by omega, ?_⟩
    rw [if_neg (fun q => by omega)]; exact p2
  ·rw [castF_len, decide_eq_true rfl]
   have g3 : decide (F.length + ([(c : Int)] : List Int).length < SMALL) = true := decide_eq_true (by rw [small_eq]; simp; omega)
   simp only [cond_true, g1, g2, g3, gd, Int.toNat_natCast, hw, hw8]
   have hcs : castF F ++ [(c : Int)] = castF (F ++ [c]) := by unfold castF; simp
   rw [hcs]
   have hsn : ∀ a, (F ++ [c]).getD a 0 = if a < F.length then F.getD a 0 else if a = F.length then c else 0 := fun a => snoc_getD F c 0 a
   refine hrest (cl.set c (F.length : Int), F ++ [c]) ⟨by rw [List.length_set]; exact h1, by simp; omega, fun i hi => ?_, fun a ha => ?_⟩
   ·simp only [key]
    by_cases hci : c = i
    ·subst hci
     refine ⟨F.length, by simp, by rw [if_pos ⟨rfl, by omega⟩], ?_, ?_⟩ <;> rw [hsn, if_neg (by omega), if_pos rfl]
    ·rw [if_neg (fun q => hci q.1)]
     obtain ⟨a, a1, a2, a3, a4⟩ := h3 i (by omega)
     refine ⟨a, by simp; omega, a2, ?_, ?_⟩ <;> rw [hsn, if_pos a1] <;> assumption
   ·simp only [key]
    rw [hsn]
    have ha' : a < F.length + 1 := by simpa using ha
    by_cases haF : a < F.length
    ·rw [if_pos haF]
     obtain ⟨p1, p2⟩ := h4 a haF
     refine ⟨by omega, ?_⟩
     rw [if_neg (fun q => by omega)]; exact p2
    ·rw [if_neg haF, if_pos (by omega)]
     refine ⟨by omega, ?_⟩
     rw [if_pos ⟨rfl, by omega⟩]
     omega
abbrev PQ := List (Nat × Nat)
def pl (q : PQ) : List (List Int) := q.map fun x => [(x.1 : Int), (x.2 : Int)]
theorem pl_len (q : PQ) : (pl q).length = q.length := by unfold pl; rw [List.length_map]
theorem pl_getD {q : PQ} {i : Nat} (h : i < q.length) (d : List Int) : (pl q).getD i d = [((q.getD i (0, 0)).1 : Int), ((q.getD i (0, 0)).2 : Int)] := by
 unfold pl
 rw [List.getD_eq_getElem?_getD, List.getElem?_map, List.getD_eq_getElem?_getD, List.getElem?_eq_getElem h]
 rfl
theorem pl_snoc (q : PQ) (x : Nat × Nat) : pl (q ++ [x]) = pl q ++ [[(x.1 : Int), (x.2 : Int)]] := by unfold pl; simp
theorem pq_old {q : PQ} {x : Nat × Nat} {i : Nat} (h : i < q.length) : (q ++ [x]).getD i (0, 0) = q.getD i (0, 0) := by rw [snoc_getD, if_pos h]
def stp (A : List Int) (NA : List (List Int)) (B : List Int) (NB : List (List Int)) (F : List Nat) (x : Nat × Nat) (a : Nat) : Nat × Nat := (dl A NA x.1 (F.getD a 0), dl B NB x.2 (F.getD a 0))
def RowOk (A : List Int) (NA : List (List Int)) (B : List Int) (NB : List (List Int)) (F : List Nat) (q : PQ) (i c : Nat) (r : List Int) : Prop :=
 r.length = c ∧ ∀ a, a < c → ∃ j, j < q.length ∧ r.getD a 0 = (j : Int) ∧ q.getD j (0, 0) = stp A NA B NB F (q.getD i (0, 0)) a
theorem RowOk.more {F : List Nat} {q : PQ} {i c : Nat} {r : List Int} (h : RowOk A NA B NB F q i c r) (hi : i < q.length) (x : Nat × Nat) : RowOk A NA B NB F (q ++ [x]) i c r := by
 refine ⟨h.1, fun a ha => ?_⟩
 obtain ⟨j, h1, h2, h3⟩ := h.2 a ha
 exact ⟨j, by simp; omega, h2, by rw [pq_old h1, pq_old hi]; exact h3⟩
structure PInv (ka kb : Nat) (q : PQ) : Prop where
 lt : ∀ j, j < q.length → (q.getD j (0, 0)).1 < ka ∧ (q.getD j (0, 0)).2 < kb
 nod : q.Nodup
 pos : 0 < q.length
 zero : q.getD 0 (0, 0) = (0, 0)
theorem PInv.size {q : PQ} (h : PInv ka kb q) : q.length ≤ ka * kb := by
 have hn : (q.map fun x => x.1 * kb + x.2).Nodup := by
  have : (q.map fun x => x.1 * kb + x.2).Pairwise (· ≠ ·) := by
   rw [List.pairwise_map]
   refine List.Pairwise.imp_of_mem ?_ h.nod
   intro x y hx hy hne heq
   obtain ⟨i, hi, hxi⟩ := List.mem_iff_getElem.1 hx
   obtain ⟨j, hj, hyj⟩ := List.mem_iff_getElem.1 hy
   have h1 := h.lt i hi
   have h2 := h.lt j hj
   rw [List.getD_eq_getElem?_getD, List.getElem?_eq_getElem hi, hxi] at h1
   rw [List.getD_eq_getElem?_getD, List.getElem?_eq_getElem hj, hyj] at h2
   simp only [Option.getD_some] at h1 h2
   apply hne
   have e1 : x.1 = y.1 := by
    have q1 : (x.1 * kb + x.2) / kb = x.1 := by
     rw [Nat.mul_comm, Nat.mul_add_div (by omega), Nat.div_eq_of_lt h1.2]; omega
    have q2 : (y.1 * kb + y.2) / kb = y.1 := by
     rw [Nat.mul_comm, Nat.mul_add_div (by omega), Nat.div_eq_of_lt h2.2]; omega
    rw [← q1, ← q2, heq]
   have e2 : x.2 = y.2 := by rw [e1] at heq; omega
   exact Prod.ext e1 e2
  exact this
 have := nodup_len' (q.map fun x => x.1 * kb + x.2) (List.range (ka * kb)) hn (fun x hx => by
  rw [List.mem_map] at hx
  obtain ⟨y, hy, rfl⟩ := hx
  obtain ⟨i, hi, hyi⟩ := List.mem_iff_getElem.1 hy
  have h1 := h.lt i hi
  rw [List.getD_eq_getElem?_getD, List.getElem?_eq_getElem hi, hyi] at h1
  simp only [Option.getD_some] at h1
  rw [List.mem_range]
  calc y.1 * kb + y.2 < y.1 * kb + kb := by omega
   _ = (y.1 + 1) * kb := by rw [Nat.succ_mul]
   _ ≤ ka * kb := Nat.mul_le_mul_right _ h1.1)
 rwa [List.length_map, List.length_range] at this
where
 nodup_len' : ∀ (l ys : List Nat), l.Nodup → (∀ x ∈ l, x ∈ ys) → l.length ≤ ys.length
  | [], ys, _, _ => Nat.zero_le _
  | a :: r, ys, hn, hs => by
   rw [List.nodup_cons] at hn
   have ha := hs a (by simp)
   have ih := nodup_len' r (ys.erase a) hn.2 fun x hx => (List.mem_erase_of_ne (fun h => hn.1 (by rw [← h]; exact hx))).2 (hs x (by simp [hx]))
   rw [List.length_erase_of_mem ha] at ih
   have := List.length_pos_of_mem ha
   rw [List.length_cons]
   omega
end
end Go.Ab.T

/- Two machines at once: the pairs, and what the product runs. -/
namespace Go.Ab.T
open Go Go.Ab
set_option linter.unusedVariables false
set_option linter.unusedSimpArgs false
section
variable {R : Type} {A : List Int} {NA : List (List Int)} {EA : List Bool} {ka ma : Nat} {B : List Int} {NB : List (List Int)} {EB : List Bool} {kb mb : Nat}
def pv (x : Nat × Nat) : List Int := [(x.1 : Int), (x.2 : Int)]
theorem pv_inj {x y : Nat × Nat} (h : pv x = pv y) : x = y := by
 unfold pv at h
 simp only [List.cons.injEq, and_true] at h
 exact Prod.ext (by omega) (by omega)
theorem p26_ok (kf k0 : Nat) (q : PQ) (hk : q.length + 2 < k0) (hq : q.length ≤ 1000000) (x : Nat × Nat) (v115 v116 v117 v118 : Int) (v120 : List Int) (v121 : List (List Int)) (v122 : List Bool) (v123 : List Int) (v124 : List (List Int)) (v125 : List Bool) (v126 v127 v128 v130 : List Int) (v132 : List (List Int)) (v133 : List Bool) (v134 : List (List Int)) (v135 : List Bool)
  (Ke : Int → Int → Int → Int → Int → (List Int) → (List (List Int)) → (List Bool) → (List Int) → (List (List Int)) → (List Bool) → (List Int) → (List Int) → (List Int) → (List (List Int)) → (List Int) → (List Int) → (List (List Int)) → (List Bool) → (List (List Int)) → (List Bool) → Option R) (T : Option R)
  (hT : ∀ j : Nat, ((j < q.length ∧ q.getD j (0, 0) = x) ∨ (j = q.length ∧ ∀ y ∈ q, y ≠ x)) → Ke v115 v116 v117 v118 (j : Int) v120 v121 v122 v123 v124 v125 v126 v127 v128 (pl q) v130 (pv x) v132 v133 v134 v135 = T) :
  yy29_l26 kf k0 v115 v116 v117 v118 v120 v121 v122 v123 v124 v125 v126 v127 v128 (pl q) v130 (pv x) v132 v133 v134 v135 Ke 0 = T := by
 refine loop_inv (fun kk j (_ : Unit) => yy29_l26 kf kk v115 v116 v117 v118 v120 v121 v122 v123 v124 v125 v126 v127 v128 (pl q) v130 (pv x) v132 v133 v134 v135 Ke (j : Int)) T q.length 0
  (fun j _ => ∀ i, i < j → q.getD i (0, 0) ≠ x) ?_ ?_ q.length k0 0 () (by omega) (by omega) (by intro i hi; omega)
 ·intro kk _ hno
  rw [yy29_l26]
  unfold yy29_l26_b
  rw [pl_len, decide_eq_false (show ¬ ((q.length : Int) < (q.length : Int)) by omega), cond_false]
  refine hT q.length (Or.inr ⟨rfl, fun y hy he => ?_⟩)
  obtain ⟨i, hi, hyi⟩ := List.mem_iff_getElem.1 hy
  refine hno i hi ?_
  rw [List.getD_eq_getElem?_getD, List.getElem?_eq_getElem hi, hyi]
  exact he
 ·intro kk j _ _ hj hno
  have g0 : decide (0 ≤ (j : Int)) = true := decide_eq_true (by omega)
  have g1 : decide ((j : Int) < ((pl q).length : Int)) = true := decide_eq_true (by rw [pl_len]; omega)
  have hpl : (pl q).getD j (List.replicate 2 (0 : Int)) = pv (q.getD j (0, 0)) := pl_getD hj _
  by_cases he : q.getD j (0, 0) = x
  ·right
   rw [yy29_l26]
   unfold yy29_l26_b
   simp only [g0, g1, gd, cond_true, Int.toNat_natCast, hpl, he, decide_true, Bool.not_true, cond_false]
   exact hT j (Or.inl ⟨hj, he⟩)
  ·left
   refine ⟨(), fun i hi => ?_, ?_⟩
   ·by_cases hij : i = j
    ·subst hij; exact he
    ·exact hno i (by omega)
   ·have hne : decide (pv (q.getD j (0, 0)) = pv x) = false := decide_eq_false fun h => he (pv_inj h)
    rw [yy29_l26]
    unfold yy29_l26_b
    simp only [g0, g1, gd, cond_true, Int.toNat_natCast, hpl, hne, Bool.not_false, wi_1 j (show j < 4000000000000000000 by omega)]
theorem p22_ok (hA : Mch A NA EA ka ma) (hB : Mch B NB EB kb mb) (hab : ka * kb ≤ 64) (F : List Nat) (hF : F.length ≤ 256) (hlt : ∀ j, j < F.length → F.getD j 0 < 256) (kf k0 : Nat) (hk : 500 < k0) (q : PQ) (hq : PInv ka kb q) (i : Nat) (hi : i < q.length)
  (v96 : Int) (v106 v107 : List Int) (v111 : List (List Int)) (v112 : List Bool) (v113 : List (List Int)) (v114 : List Bool)
  (Ke : Int → Int → Int → (List Int) → (List (List Int)) → (List Bool) → (List Int) → (List (List Int)) → (List Bool) → (List Int) → (List Int) → (List Int) → (List (List Int)) → (List Int) → (List (List Int)) → (List Bool) → (List (List Int)) → (List Bool) → Option R) (T : Option R)
  (hT : ∀ (r : PQ) (row : List Int), PInv ka kb (q ++ r) → RowOk A NA B NB F (q ++ r) i F.length row → Ke v96 64 (i : Int) A NA EA B NB EB v106 v107 (castF F) (pl (q ++ r)) row v111 v112 v113 v114 = T) :
  yy29_l22 kf k0 Ke v96 64 (i : Int) 0 A NA EA B NB EB v106 v107 (castF F) (pl q) ([] : List Int) v111 v112 v113 v114 = T := by
 have hNA := hA.nl; have hNB := hB.nl; have hk2 := hA.k2
 refine loop_all (fun kk a (acc : PQ × List Int) => yy29_l22 kf kk Ke v96 64 (i : Int) (a : Int) A NA EA B NB EB v106 v107 (castF F) (pl (q ++ acc.1)) acc.2 v111 v112 v113 v114) T F.length 200
  (fun a acc => PInv ka kb (q ++ acc.1) ∧ RowOk A NA B NB F (q ++ acc.1) i a acc.2) ?_ ?_ F.length k0 0 ([], []) (by omega) (by omega) ⟨by simpa using hq, rfl, fun a ha => by omega⟩ |> fun h => by simpa using h
 ·rintro kk ⟨r, row⟩ ⟨h1, h2⟩
  simp only at h1 h2
  rw [yy29_l22]
  unfold yy29_l22_b
  rw [castF_len, decide_eq_false (show ¬ ((F.length : Int) < (F.length : Int)) by omega), cond_false]
  exact hT r row h1 h2
 ·rintro kk a ⟨r, row⟩ hB2 ha ⟨h1, h2⟩ hrest
  simp only at h1 h2
  have hsz := h1.size
  have hlen : (q ++ r).length = q.length + r.length := List.length_append
  have hi' : i < (q ++ r).length := by omega
  have hlti := h1.lt i hi'
  generalize hQ : q ++ r = Q at h1 h2 hsz hi' hlti
  have hFa := hlt a ha
  have hpl : (pl Q).getD i (List.replicate 2 (0 : Int)) = pv (Q.getD i (0, 0)) := pl_getD hi' _
  have hstep : stp A NA B NB F (Q.getD i (0, 0)) a = (dl A NA (Q.getD i (0, 0)).1 (F.getD a 0), dl B NB (Q.getD i (0, 0)).2 (F.getD a 0)) := rfl
  generalize hx : Q.getD i (0, 0) = x at hpl hstep hlti
  generalize hf : F.getD a 0 = f at hFa hstep
  obtain ⟨c1, c2⟩ := hA.cls_lt f hFa
  obtain ⟨d1, d2⟩ := hB.cls_lt f hFa
  have hdA : dl A NA x.1 f = ((NA.getD x.1 []).getD (A.getD f 0).toNat 0).toNat := rfl
  have hdB : dl B NB x.2 f = ((NB.getD x.2 []).getD (B.getD f 0).toNat 0).toNat := rfl
  obtain ⟨s1, s2⟩ := hA.row_lt hlti.1 c1
  obtain ⟨t1, t2⟩ := hB.row_lt hlti.2 d1
  rw [← hdA] at s1 s2
  rw [← hdB] at t1 t2
  have hrA := (hA.row x.1 hlti.1).1
  have hrB := (hB.row x.2 hlti.2).1
  generalize hca : (A.getD f 0).toNat = ca at c1 c2 s2
  generalize hcb : (B.getD f 0).toNat = cb at d1 d2 t2
  have g0 : decide (0 ≤ (i : Int)) = true := decide_eq_true (by omega)
  have g1 : decide ((i : Int) < ((pl Q).length : Int)) = true := decide_eq_true (by rw [pl_len]; omega)
  have g2 : decide (0 ≤ (x.1 : Int)) = true := decide_eq_true (by omega)
  have g3 : decide ((x.1 : Int) < (NA.length : Int)) = true := decide_eq_true (by omega)
  have g4 : decide (0 ≤ (a : Int)) = true := decide_eq_true (by omega)
  have g5 : decide ((a : Int) < ((castF F).length : Int)) = true := decide_eq_true (by rw [castF_len]; omega)
  have g6 : decide (0 ≤ (f : Int)) = true := decide_eq_true (by omega)
  have g7 : decide ((f : Int) < 256) = true := decide_eq_true (by omega)
  have g8 : decide (0 ≤ (ca : Int)) = true := decide_eq_true (by omega)
  have g9 : decide ((ca : Int) < ((NA.getD x.1 []).length : Int)) = true := decide_eq_true (by omega)
  have g10 : decide (0 ≤ (x.2 : Int)) = true := decide_eq_true (by omega)
  have g11 : decide ((x.2 : Int) < (NB.length : Int)) = true := decide_eq_true (by omega)
  have g12 : decide (0 ≤ (cb : Int)) = true := decide_eq_true (by omega)
  have g13 : decide ((cb : Int) < ((NB.getD x.2 []).length : Int)) = true := decide_eq_true (by omega)
  have g14 : decide (((pl Q).length : Int) ≤ 64) = true := decide_eq_true (by rw [pl_len]; omega)
  have p0 : (pv x).getD 0 0 = (x.1 : Int) := rfl
  have p1 : (pv x).getD 1 0 = (x.2 : Int) := rfl
  rw [yy29_l22]
  unfold yy29_l22_b
  simp only [hQ, g0, g1, gd, cond_true, Int.toNat_natCast, hpl, p0, p1, g2, g3, g4, g5, castF_getD, hf, g6, g7, c2, d2, g8, g9, g10, g11, g12, g13, g14, s2, t2]
  refine p26_ok kf kk Q (by omega) (by omega) (dl A NA x.1 f, dl B NB x.2 f) _ _ _ _ _ _ _ _ _ _ _ _ _ _ _ _ _ _ _ T fun j hj => ?_
  have hrl := h2.1
  have hw := wi_1 a (show a < 4000000000000000000 by omega)
  have g15 : decide (row.length + ([(j : Int)] : List Int).length < SMALL) = true := decide_eq_true (by rw [small_eq]; simp; omega)
  have hsn : ∀ c, (row ++ [(j : Int)]).getD c 0 = if c < row.length then row.getD c 0 else if c = row.length then (j : Int) else 0 := fun c => snoc_getD row _ 0 c
  rcases hj with ⟨hj1, hj2⟩ | ⟨rfl, hj2⟩
  ·rw [pl_len, decide_eq_false (show ¬ ((j : Int) = (Q.length : Int)) by omega)]
   simp only [cond_false, g15, gd, cond_true, hw]
   have := hrest (r, row ++ [(j : Int)]) ⟨by simp only; rw [hQ]; exact h1, by simp [hrl], fun c hc => by
    simp only
    rw [hsn, hQ]
    by_cases hca : c < a
    ·rw [if_pos (by omega)]; exact h2.2 c hca
    ·rw [if_neg (by omega), if_pos (by omega)]
     have : c = a := by omega
     subst this
     exact ⟨j, hj1, rfl, by rw [hj2, hx]; unfold stp; rw [hf]⟩⟩
   simp only [hQ] at this
   exact this
  ·rw [pl_len, decide_eq_true rfl]
   have g16 : decide (Q.length + ([pv (dl A NA x.1 f, dl B NB x.2 f)] : List (List Int)).length < SMALL) = true := decide_eq_true (by rw [small_eq]; simp; omega)
   have hps : pl Q ++ [pv (dl A NA x.1 f, dl B NB x.2 f)] = pl (Q ++ [(dl A NA x.1 f, dl B NB x.2 f)]) := (pl_snoc _ _).symm
   have hP : PInv ka kb (Q ++ [(dl A NA x.1 f, dl B NB x.2 f)]) := by
    refine ⟨fun c hc => ?_, ?_, by simp, by rw [pq_old h1.pos]; exact h1.zero⟩
    ·rw [snoc_getD]
     by_cases hcl : c < Q.length
     ·rw [if_pos hcl]; exact h1.lt c hcl
     ·rw [if_neg hcl]
      have : c = Q.length := by simp at hc; omega
      rw [if_pos this]; exact ⟨s1, t1⟩
    ·rw [List.nodup_append]
     refine ⟨h1.nod, by simp, fun y hy z hz => ?_⟩
     rw [List.mem_singleton] at hz
     rw [hz]; exact hj2 y hy
   simp only [cond_true, g15, g16, gd, hw, hps]
   have := hrest (r ++ [(dl A NA x.1 f, dl B NB x.2 f)], row ++ [(Q.length : Int)]) ⟨by simp only; rw [← List.append_assoc, hQ]; exact hP, by simp [hrl], fun c hc => by
    simp only
    rw [hsn, ← List.append_assoc, hQ]
    by_cases hca : c < a
    ·rw [if_pos (by omega)]
     exact (h2.more hi' _).2 c hca
    ·rw [if_neg (by omega), if_pos (by omega)]
     have : c = a := by omega
     subst this
     refine ⟨Q.length, by simp, rfl, ?_⟩
     rw [snoc_getD, if_neg (by omega), if_pos rfl, pq_old hi', hx]
     unfold stp; rw [hf]⟩
   simp only [← List.append_assoc, hQ] at this
   exact this
end
end Go.Ab.T

/- Two machines at once: what the reference's product is. -/
namespace Go.Ab.T
open Go Go.Ab
set_option linter.unusedVariables false
set_option linter.unusedSimpArgs false
structure Sim (A : List Int) (NA : List (List Int)) (EA : List Bool) (ka : Nat) (B : List Int) (NB : List (List Int)) (EB : List Bool) (kb how : Nat) (C : List Int) (N : List (List Int)) (E : List Bool) (n : Nat) (q : PQ) : Prop where
 len : q.length = n
 zero : q.getD 0 (0, 0) = (0, 0)
 lt : ∀ i, i < n → (q.getD i (0, 0)).1 < ka ∧ (q.getD i (0, 0)).2 < kb
 step : ∀ i, i < n → ∀ b, b < 256 → q.getD (dl C N i b) (0, 0) = (dl A NA (q.getD i (0, 0)).1 b, dl B NB (q.getD i (0, 0)).2 b)
 ends : ∀ i, i < n → en E i = opB how (en EA (q.getD i (0, 0)).1) (en EB (q.getD i (0, 0)).2)
section
variable {R : Type} {A : List Int} {NA : List (List Int)} {EA : List Bool} {ka ma : Nat} {B : List Int} {NB : List (List Int)} {EB : List Bool} {kb mb : Nat}
theorem p18_ok (hA : Mch A NA EA ka ma) (hB : Mch B NB EB kb mb) (hab : ka * kb ≤ 64) (F : List Nat) (hF : F.length ≤ 256) (hlt : ∀ j, j < F.length → F.getD j 0 < 256) (kf : Nat) (hkf : 3000 ≤ kf) (how : Nat) (hh : 1 ≤ how ∧ how ≤ 4)
  (v88 v89 : List Int) (v92 : List (List Int)) (v93 : List Bool) (Ke : Int → (List Int) → (List Int) → (List (List Int)) → (List (List Int)) → (List Bool) → (List (List Int)) → (List Bool) → Option R) (T : Option R)
  (hT : ∀ (q : PQ) (N' : List (List Int)) (E' : List Bool), PInv ka kb q → N'.length = q.length → E'.length = q.length → (∀ i, i < q.length → RowOk A NA B NB F q i F.length (N'.getD i [])) →
   (∀ i, i < q.length → E'.getD i false = opB how (en EA (q.getD i (0, 0)).1) (en EB (q.getD i (0, 0)).2)) → Ke 64 v88 v89 (pl q) v92 v93 N' E' = T) :
  yy29_l18 kf kf Ke (how : Int) 64 0 A NA EA B NB EB v88 v89 (castF F) (pl [(0, 0)]) v92 v93 ([] : List (List Int)) ([] : List Bool) = T := by
 have hEA := hA.el; have hEB := hB.el
 refine loop_meas (fun kk (acc : Nat × PQ × List (List Int) × List Bool) => yy29_l18 kf kk Ke (how : Int) 64 (acc.1 : Int) A NA EA B NB EB v88 v89 (castF F) (pl acc.2.1) v92 v93 acc.2.2.1 acc.2.2.2) T (fun acc => 66 - acc.1) 600
  (fun acc => PInv ka kb acc.2.1 ∧ acc.1 ≤ acc.2.1.length ∧ acc.2.2.1.length = acc.1 ∧ acc.2.2.2.length = acc.1 ∧ (∀ i, i < acc.1 → RowOk A NA B NB F acc.2.1 i F.length (acc.2.2.1.getD i [])) ∧
   (∀ i, i < acc.1 → acc.2.2.2.getD i false = opB how (en EA (acc.2.1.getD i (0, 0)).1) (en EB (acc.2.1.getD i (0, 0)).2))) ?_ kf (0, [(0, 0)], [], []) (by simp only; omega)
  ⟨⟨fun j hj => by
    have : j = 0 := by simp at hj; exact hj
    subst this
    exact ⟨by have := hA.k1; simp; omega, by have := hB.k1; simp; omega⟩, by simp, by simp, rfl⟩, by simp, rfl, rfl, fun i hi => by simp at hi, fun i hi => by simp at hi⟩
 rintro kk ⟨i, q, N', E'⟩ hB2 ⟨h1, h2, h3, h4, h5, h6⟩ hrest
 simp only at h1 h2 h3 h4 h5 h6 hrest
 have hsz := h1.size
 rw [yy29_l18]
 unfold yy29_l18_b
 dsimp only
 by_cases hi : i < q.length
 ·rw [pl_len, decide_eq_true (show (i : Int) < (q.length : Int) by omega), cond_true, decide_eq_true (show (q.length : Int) ≤ 64 by omega), cond_true]
  refine p22_ok hA hB hab F hF hlt kf kk (by omega) q h1 i hi _ _ _ _ _ _ _ _ T fun r row z1 z2 => ?_
  have hlen : (q ++ r).length = q.length + r.length := List.length_append
  have hold : ∀ j, j < q.length → (q ++ r).getD j (0, 0) = q.getD j (0, 0) := fun j hj => by
   rw [List.getD_eq_getElem?_getD, List.getD_eq_getElem?_getD, List.getElem?_append_left hj]
  have hrows : ∀ j, j < i → RowOk A NA B NB F (q ++ r) j F.length (N'.getD j []) := by
   intro j hj
   obtain ⟨r1, r2⟩ := h5 j hj
   refine ⟨r1, fun a ha => ?_⟩
   obtain ⟨c, c1, c2, c3⟩ := r2 a ha
   exact ⟨c, by omega, c2, by rw [hold c c1, hold j (by omega)]; exact c3⟩
  have hi' : i < (q ++ r).length := by omega
  have hsz' := z1.size
  have hlti := z1.lt i hi'
  have hxe : (q ++ r).getD i (0, 0) = q.getD i (0, 0) := hold i hi
  have hends : ∀ j, j < i → E'.getD j false = opB how (en EA ((q ++ r).getD j (0, 0)).1) (en EB ((q ++ r).getD j (0, 0)).2) := by
   intro j hj
   rw [hold j (by omega)]; exact h6 j hj
  generalize hQ : q ++ r = Q at z1 z2 hi' hsz' hlti hrows hends
  have hpl : (pl Q).getD i (List.replicate 2 (0 : Int)) = pv (Q.getD i (0, 0)) := pl_getD hi' _
  have hgo : ∀ b : Bool, b = opB how (en EA (Q.getD i (0, 0)).1) (en EB (Q.getD i (0, 0)).2) →
    yy29_l18 kf kk Ke (how : Int) 64 ((i + 1 : Nat) : Int) A NA EA B NB EB v88 v89 (castF F) (pl Q) v92 v93 (N' ++ [row]) (E' ++ [b]) = T := by
   intro b hb
   refine hrest (i + 1, Q, N' ++ [row], E' ++ [b]) ⟨z1, by simp only; omega, by simp [h3], by simp [h4], fun j hj => ?_, fun j hj => ?_⟩ (by simp only; omega)
   ·simp only
    rw [snoc_getD]
    by_cases hji : j < i
    ·rw [if_pos (by omega)]; exact hrows j hji
    ·rw [if_neg (by omega), if_pos (by simp only at hj; omega)]
     have : j = i := by simp only at hj; omega
     subst this; exact z2
   ·simp only
    rw [snoc_getD]
    by_cases hji : j < i
    ·rw [if_pos (by omega)]; exact hends j hji
    ·rw [if_neg (by omega), if_pos (by simp only at hj; omega)]
     have : j = i := by simp only at hj; omega
     subst this; exact hb
  generalize hx : Q.getD i (0, 0) = x at hpl hlti hgo
  have g0 : decide (0 ≤ (i : Int)) = true := decide_eq_true (by omega)
  have g1 : decide ((i : Int) < ((pl Q).length : Int)) = true := decide_eq_true (by rw [pl_len]; omega)
  have g2 : decide (0 ≤ (x.1 : Int)) = true := decide_eq_true (by omega)
  have g3 : decide ((x.1 : Int) < (EA.length : Int)) = true := decide_eq_true (by omega)
  have g4 : decide (0 ≤ (x.2 : Int)) = true := decide_eq_true (by omega)
  have g5 : decide ((x.2 : Int) < (EB.length : Int)) = true := decide_eq_true (by omega)
  have g6 : decide (N'.length + ([row] : List (List Int)).length < SMALL) = true := decide_eq_true (by rw [small_eq]; simp; omega)
  have g7 : ∀ b : Bool, decide (E'.length + ([b] : List Bool).length < SMALL) = true := fun b => decide_eq_true (by rw [small_eq]; simp; omega)
  have p0 : (pv x).getD 0 0 = (x.1 : Int) := rfl
  have p1 : (pv x).getD 1 0 = (x.2 : Int) := rfl
  have hw := wi_1 i (show i < 4000000000000000000 by omega)
  have hea : EA.getD x.1 false = en EA x.1 := rfl
  have heb : EB.getD x.2 false = en EB x.2 := rfl
  simp only [g0, g1, gd, cond_true, Int.toNat_natCast, hpl, p0, p1, g2, g3, g4, g5, g6, hea, heb, hw]
  generalize en EA x.1 = ea at hgo
  generalize en EB x.2 = eb at hgo
  rcases (show how = 1 ∨ how = 2 ∨ how = 3 ∨ how = 4 by omega) with rfl | rfl | rfl | rfl <;> cases ea <;> cases eb <;>
   simp only [cond_true, cond_false, g7, show IntKind.i64.wrap (((1 : Nat) : Int) - 1) = 0 by decide, show IntKind.i64.wrap (((2 : Nat) : Int) - 1) = 1 by decide, show IntKind.i64.wrap (((3 : Nat) : Int) - 1) = 2 by decide, show IntKind.i64.wrap (((4 : Nat) : Int) - 1) = 3 by decide] <;>
   exact hgo _ rfl
 ·rw [pl_len, decide_eq_false (show ¬ ((i : Int) < (q.length : Int)) by omega), cond_false]
  have : i = q.length := by omega
  subst this
  exact hT q N' E' h1 h3 h4 h5 h6
theorem product_ok (hA : Mch A NA EA ka ma) (hB : Mch B NB EB kb mb) (hab : ka * kb ≤ 64) (kf : Nat) (hkf : 6000 ≤ kf) (how : Nat) (hh : 1 ≤ how ∧ how ≤ 4) (K : (List Int) → Int → (List (List Int)) → (List Bool) → Option R) (T : Option R)
  (hT : ∀ (C : List Int) (N : List (List Int)) (E : List Bool) (n m : Nat) (q : PQ), Mch C N E n m → n ≤ 64 → Sim A NA EA ka B NB EB kb how C N E n q → K C 0 N E = T) :
  yy29 kf A NA EA B NB EB (how : Int) 64 K = T := by
 unfold yy29 yy29_b
 rw [decide_eq_false (show ¬ ((how : Int) < 1) by omega), decide_eq_false (show ¬ ((4 : Int) < (how : Int)) by omega)]
 simp only [cond_false]
 rw [rmay_ok hA kf hkf]
 simp only [Bool.not_true, cond_false]
 rw [rmay_ok hB kf hkf]
 simp only [Bool.not_true, cond_false]
 refine p8_ok kf kf (by omega) _ _ _ _ _ _ _ _ _ _ _ _ T fun cl F hc => ?_
 obtain ⟨c1, c2, c3, c4⟩ := hc
 refine p18_ok hA hB hab F c2 (fun j hj => (c4 j hj).1) kf (by omega) how hh _ _ _ _ _ T fun q N' E' h1 h2 h3 h4 h5 => ?_
 have hsz := h1.size
 have hF1 : 1 ≤ F.length := by obtain ⟨j, hj, _⟩ := c3 0 (by omega); omega
 rw [pl_len, decide_eq_false (show ¬ ((64 : Int) < (q.length : Int)) by omega), cond_false]
 have hM : Mch cl N' E' q.length F.length := by
  refine ⟨c1, fun b hb => ?_, ⟨F.getD (F.length - 1) 0, (c4 _ (by omega)).1, (c4 _ (by omega)).2⟩, h2, h3, h1.pos, by omega, hF1, c2, fun s hs => ?_⟩
  ·obtain ⟨j, j1, j2, _⟩ := c3 b hb
   exact ⟨j, j1, j2⟩
  ·obtain ⟨r1, r2⟩ := h4 s hs
   refine ⟨r1, fun a ha => ?_⟩
   obtain ⟨j, j1, j2, _⟩ := r2 a ha
   exact ⟨j, j1, j2⟩
 refine hT cl N' E' q.length F.length q hM (by omega) ⟨rfl, h1.zero, h1.lt, fun i hi b hb => ?_, fun i hi => h5 i hi⟩
 obtain ⟨a, a1, a2, a3, a4⟩ := c3 b hb
 obtain ⟨j, j1, j2, j3⟩ := (h4 i hi).2 a a1
 have hd : dl cl N' i b = j := by
  unfold dl
  rw [a2, Int.toNat_natCast, j2, Int.toNat_natCast]
 rw [hd, j3]
 unfold stp dl
 rw [a3, a4]
end
end Go.Ab.T

/- The law LeastSame. -/
namespace Go.Ab.T
open Go Go.Ab
set_option linter.unusedVariables false
set_option linter.unusedSimpArgs false
section
variable {R : Type} {A : List Int} {NA : List (List Int)} {EA : List Bool} {ka ma : Nat} {B : List Int} {NB : List (List Int)} {EB : List Bool} {kb mb : Nat}
theorem sim_dls {C : List Int} {N : List (List Int)} {E : List Bool} {n m how : Nat} {q : PQ} (h : Mch C N E n m) (hs : Sim A NA EA ka B NB EB kb how C N E n q) :
  ∀ (v : List Nat) (i : Nat), i < n → isBy v → q.getD (dls C N i v) (0, 0) = (dls A NA (q.getD i (0, 0)).1 v, dls B NB (q.getD i (0, 0)).2 v)
 | [], i, hi, hv => rfl
 | b :: r, i, hi, hv => by
  have hb : b < 256 := hv b (List.mem_cons_self ..)
  have hr : isBy r := fun x hx => hv x (List.mem_cons_of_mem _ hx)
  show q.getD (dls C N (dl C N i b) r) (0, 0) = (dls A NA (dl A NA (q.getD i (0, 0)).1 b) r, dls B NB (dl B NB (q.getD i (0, 0)).2 b) r)
  rw [sim_dls h hs r _ (h.dl_lt hi hb) hr, hs.step i hi b hb]
theorem sim_en {C : List Int} {N : List (List Int)} {E : List Bool} {n m how : Nat} {q : PQ} (h : Mch C N E n m) (hs : Sim A NA EA ka B NB EB kb how C N E n q) {v : List Nat} (hv : isBy v) :
  en E (dls C N 0 v) = opB how (en EA (dls A NA 0 v)) (en EB (dls B NB 0 v)) := by
 rw [hs.ends _ (h.dls_lt h.k1 hv), sim_dls h hs v 0 h.k1 hv, hs.zero]
end
end Go.Ab.T

/- Images: the law ImageApart. -/
namespace Go.Ab.T
open Go Go.Ab
set_option linter.unusedVariables false
set_option linter.unusedSimpArgs false
theorem imgI_inj {C C' : List Int} {N N' : List (List Int)} {E E' : List Bool} {n n' m m' : Nat} (h : Canon C N E n m) (h' : Canon C' N' E' n' m') (hn : n ≤ 20) (hn' : n' ≤ 20) (he : imgI C N E m = imgI C' N' E' m') : C = C' ∧ N = N' ∧ E = E' := by
 have h1 := take_img (R := List Int × List (List Int) × List Bool) h hn 20000 (by omega) fun C _ N E => some (C, N, E)
 have h2 := take_img (R := List Int × List (List Int) × List Bool) h' hn' 20000 (by omega) fun C _ N E => some (C, N, E)
 rw [he, h2] at h1
 simp only [Option.some.injEq, Prod.mk.injEq] at h1
 exact ⟨h1.1.symm, h1.2.1.symm, h1.2.2.symm⟩
theorem apart15_ok {R : Type} (kf : Nat) (hkf : 20000 ≤ kf) (v1 v2 : Int) (l : List Int) (v4 v5 : Int) (l2 : List Int) (h1 : 0 ≤ v1 ∧ v1 ≤ 255) (h2 : 0 ≤ v2 ∧ v2 ≤ 255) (hl : ∀ x ∈ l, 0 ≤ x ∧ x ≤ 255) (h4 : 0 ≤ v4 ∧ v4 ≤ 255) (h5 : 0 ≤ v5 ∧ v5 ≤ 255) (hl2 : ∀ x ∈ l2, 0 ≤ x ∧ x ≤ 255) (K : Bool → Option R) :
  yy7 kf v1 v2 l v4 v5 l2 K = K true := by
 unfold yy7 yy7_b
 rw [begun15_ok kf hkf, Bool.not_true, cond_false]
 dsimp only
 by_cases hlen : 60 < (l.length : Int)
 ·rw [decide_eq_true hlen]; rfl
 rw [decide_eq_false hlen, cond_false]
 by_cases hlen2 : 60 < (l2.length : Int)
 ·rw [decide_eq_true hlen2]; rfl
 rw [decide_eq_false hlen2, cond_false]
 refine dfa_ok kf (by omega) v1 v2 h1 h2 l hl (by omega) _ _ fun A NA EA ka ma hA gA hk8 _ => ?_
 refine dfa_ok kf (by omega) v4 v5 h4 h5 l2 hl2 (by omega) _ _ fun B NB EB kb mb hB gB hk8' _ => ?_
 have hab : ka * kb ≤ 64 := Nat.le_trans (Nat.mul_le_mul hk8 hk8') (by omega)
 refine rleast_n hA gA kf hkf _ _ fun C1 N1 E1 n1 m1 hc1 hL1 hn1 => ?_
 rw [put_canon hc1 (by omega) kf hkf]
 refine rleast_n hB gB kf hkf _ _ fun C2 N2 E2 n2 m2 hc2 hL2 hn2 => ?_
 rw [put_canon hc2 (by omega) kf hkf]
 refine product_ok hA hB hab kf (by omega) 4 (by omega) _ _ fun C N E n m q hC hn hs => ?_
 refine rshortest_ok hC kf hkf _ _ fun is w hsh => ?_
 rw [decide_eq_true rfl, cond_true, cond_true, cond_true]
 have hen : ∀ v, isBy v → en E (dls C N 0 v) = !(decide (en EA (dls A NA 0 v) = en EB (dls B NB 0 v))) := fun v hv => sim_en hC hs hv
 have key : decide (imgI C1 N1 E1 m1 = imgI C2 N2 E2 m2) = !is := by
  rcases hsh with ⟨r1, r2, r3, r4, r5⟩ | ⟨r1, r2, r3⟩
  ·rw [r1]
   apply decide_eq_false
   intro hi
   obtain ⟨q1, q2, q3⟩ := imgI_inj hc1 hc2 (by omega) (by omega) hi
   subst q1 q2 q3
   rw [hen w r3] at r2
   have : en EA (dls A NA 0 w) = en EB (dls B NB 0 w) := by rw [hL1 w r3, hL2 w r3]
   rw [decide_eq_true this] at r2
   cases r2
  ·rw [r1]
   apply decide_eq_true
   have hL : Lang A NA EA B NB EB := fun v hv => by
    have := r3 v hv
    rw [hen v hv] at this
    exact of_decide_eq_true (by simpa using this)
   obtain ⟨q1, q2, q3⟩ := hc1.unique hc2 (hL1.symm.trans (hL.trans hL2))
   have hm : m1 = m2 := by
    have a1 := (hc1.mch.row 0 hc1.mch.k1).1
    have a2 := (hc2.mch.row 0 hc2.mch.k1).1
    rw [q2] at a1
    omega
   rw [q1, q2, q3, hm]
 rw [key, decide_eq_true rfl]
end Go.Ab.T
