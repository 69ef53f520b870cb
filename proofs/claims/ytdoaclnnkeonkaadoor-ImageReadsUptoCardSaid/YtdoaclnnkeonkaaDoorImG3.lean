/- ImG3: a part of the proofs of this seat's statements. -/
import Derived.Test.YtdoaclnnkeonkaaDoorImG1
import Derived.Test.YtdoaclnnkeonkaaDoorImG2
import Derived.Test.YtdoaclnnkeonkaaDoorImaTA
import Derived.Laws.BitsLemmas
import Derived.Laws.BitsAllLaws
/- The reference's parts. -/
namespace Go.Ab.T
open Go Go.Ab
set_option linter.unusedVariables false
set_option linter.unusedSimpArgs false
set_option linter.unusedSectionVars false
section
variable {α β : Type} [DecidableEq α] [DecidableEq β]
def Ker (σ : Nat → α) (τ : Nat → β) (k : Nat) : Prop := ∀ s t, s < k → t < k → (σ s = σ t ↔ τ s = τ t)
theorem Ker.symm {σ : Nat → α} {τ : Nat → β} {k : Nat} (h : Ker σ τ k) : Ker τ σ k := fun s t hs ht => (h s t hs ht).symm
theorem Ker.fo {σ : Nat → α} {τ : Nat → β} {k : Nat} (h : Ker σ τ k) {t : Nat} (ht : t < k) : T.fo σ t = T.fo τ t := by
 obtain ⟨a1, a2, a3⟩ := fo_spec σ t
 obtain ⟨b1, b2, b3⟩ := fo_spec τ t
 have c1 := fo_min ((h _ _ (by omega) ht).1 a3)
 have c2 := fo_min ((h _ _ (by omega) ht).2 b3)
 omega
theorem Ker.fst {σ : Nat → α} {τ : Nat → β} {k : Nat} (h : Ker σ τ k) {t : Nat} (ht : t < k) : fstO σ t = fstO τ t := by
 rw [Bool.eq_iff_iff, fstO_iff, fstO_iff]
 constructor
 ·intro q u hu he; exact q u hu ((h u t (by omega) ht).2 he)
 ·intro q u hu he; exact q u hu ((h u t (by omega) ht).1 he)
theorem Ker.nf {σ : Nat → α} {τ : Nat → β} {k : Nat} (h : Ker σ τ k) : ∀ c, c ≤ k → T.nf σ c = T.nf τ c
 | 0, _ => rfl
 | c + 1, hc => by rw [nf_succ, nf_succ, Ker.nf h c (by omega), h.fst (by omega)]
theorem Ker.ix {σ : Nat → α} {τ : Nat → β} {k : Nat} (h : Ker σ τ k) {t : Nat} (ht : t < k) : T.ix σ t = T.ix τ t := by
 have := (fo_spec τ t).1
 unfold T.ix
 rw [h.fo ht, h.nf _ (by omega)]
theorem Ker.FL {σ : Nat → α} {τ : Nat → β} {k : Nat} (h : Ker σ τ k) : ∀ c, c ≤ k → T.FL σ c = T.FL τ c
 | 0, _ => rfl
 | c + 1, hc => by rw [FL_succ, FL_succ, Ker.FL h c (by omega), h.fst (by omega)]
end
section
variable {R : Type} {C : List Int} {N : List (List Int)} {E : List Bool} {k m : Nat}
theorem one_ok (h : Mch C N E k m) (kf : Nat) (hkf : 1000 ≤ kf) (p : Nat → Nat) (l : List Int) (hl : PL k p l) (s t : Nat) (hs : s < k) (ht : t < k) (K : Bool → Option R) :
  yy33 kf C N E l (s : Int) (t : Int) K = K (decide (sig N m p s = sig N m p t)) := by
 have hN := h.nl; have hm2 := h.m2; obtain ⟨hrow, hrs⟩ := h.row s hs; obtain ⟨hrowp, hrp⟩ := h.row t ht
 have hl1 := hl.1
 have s0 : decide (0 ≤ (s : Int)) = true := decide_eq_true (by omega)
 have s1 : decide ((s : Int) < (N.length : Int)) = true := decide_eq_true (by omega)
 have p0 : decide (0 ≤ (t : Int)) = true := decide_eq_true (by omega)
 have p1 : decide ((t : Int) < (N.length : Int)) = true := decide_eq_true (by omega)
 unfold yy33 yy33_b
 rw [s0, gd_true rfl, gdd (by omega), p0, gd_true rfl, gdd (by omega), Int.toNat_natCast, Int.toNat_natCast, hl.2 s hs, hl.2 t ht]
 by_cases hp : p s = p t
 rotate_left
 ·rw [decide_eq_false (show ¬ ((p s : Int) = (p t : Int)) by omega), Bool.not_false, cond_true, decide_eq_false fun q => hp (sig_iff.1 q).1]
 rw [decide_eq_true (show ((p s : Int) = (p t : Int)) by omega), Bool.not_true, cond_false]
 refine loop_inv (fun kk i (_ : Unit) => yy33_l4 kf kk l (s : Int) (t : Int) N (fun v14 => K v14) (K true) (i : Int)) _ m 0 (fun i _ => ∀ a, a < i → p (rowN N s a) = p (rowN N t a)) ?_ ?_ m kf 0 () (by omega) (by omega) (fun a ha => by omega)
 ·intro kk _ hall
  rw [yy33_l4]
  unfold yy33_l4_b
  rw [s0, gd_true rfl, s1, gd_true rfl, Int.toNat_natCast, decide_eq_false (show ¬ ((m : Int) < ((N.getD s []).length : Int)) by rw [hrow]; omega), cond_false, decide_eq_true (sig_iff.2 ⟨hp, hall⟩)]
 ·intro kk a _ _ ha hall
  have g0 : decide (0 ≤ (a : Int)) = true := decide_eq_true (by omega)
  have g1 : decide ((a : Int) < ((N.getD s []).length : Int)) = true := decide_eq_true (by rw [hrow]; omega)
  have g2 : decide ((a : Int) < ((N.getD t []).length : Int)) = true := decide_eq_true (by rw [hrowp]; omega)
  obtain ⟨x, hx, hxe⟩ := hrs a ha
  obtain ⟨y, hy, hye⟩ := hrp a ha
  have ex : rowN N s a = x := by unfold rowN; rw [hxe, Int.toNat_natCast]
  have ey : rowN N t a = y := by unfold rowN; rw [hye, Int.toNat_natCast]
  have x0 : decide (0 ≤ (x : Int)) = true := decide_eq_true (by omega)
  have x1 : decide ((x : Int) < (l.length : Int)) = true := decide_eq_true (by omega)
  have y0 : decide (0 ≤ (y : Int)) = true := decide_eq_true (by omega)
  have y1 : decide ((y : Int) < (l.length : Int)) = true := decide_eq_true (by omega)
  have hun : yy33_l4 kf (kk + 1) l (s : Int) (t : Int) N (fun v14 => K v14) (K true) (a : Int) = bif (!(decide (((p x : Nat) : Int) = ((p y : Nat) : Int)))) then K false else yy33_l4 kf kk l (s : Int) (t : Int) N (fun v14 => K v14) (K true) ((a + 1 : Nat) : Int) := by
   rw [yy33_l4]
   unfold yy33_l4_b
   rw [s0, gd_true rfl, s1, gd_true rfl, Int.toNat_natCast, Int.toNat_natCast, Int.toNat_natCast, g1, cond_true, gd_true rfl, gd_true rfl, g0, gd_true rfl, gd_true rfl, hxe, hye, x0, gd_true rfl, x1, gd_true rfl, p0, gd_true rfl, p1, gd_true rfl, gd_true rfl, g2, gd_true rfl, y0, gd_true rfl, y1, gd_true rfl,
    Int.toNat_natCast, Int.toNat_natCast, hl.2 x hx, hl.2 y hy, wi_1 a (by omega)]
  rw [hun]
  by_cases he : p x = p y
  ·left
   refine ⟨(), fun j hj => ?_, ?_⟩
   ·by_cases hja : j = a
    ·subst hja; rw [ex, ey, he]
    ·exact hall j (by omega)
   ·rw [decide_eq_true (show (p x : Int) = (p y : Int) by omega), Bool.not_true, cond_false]
  ·right
   rw [decide_eq_false (show ¬ ((p x : Int) = (p y : Int)) by omega), Bool.not_false, cond_true, decide_eq_false fun q => he (by rw [← ex, ← ey]; exact (sig_iff.1 q).2 a ha)]
theorem set_zero {l : List Int} {s : Nat} (h0 : l.getD s 0 = 0) : l.set s ((0 : Nat) : Int) = l := by
 refine ext_getD 0 (List.length_set ..) fun i hi => ?_
 rw [getD_set']
 split
 ·rename_i q; rw [← q.1, h0]; rfl
 ·rfl
theorem q8_ok (h : Mch C N E k m) (kf k0 : Nat) (s : Nat) (hs : s < k) (hk0 : s < k0) (v11 : Int) (q0 : List Int) (hq : q0.length = k) (h0 : q0.getD s 0 = 0) (Ke : Int → Int → List Int → List (List Int) → List Bool → List Int → Option R) :
  yy28_l8 kf k0 v11 (s : Int) C N E Ke q0 = Ke v11 (s : Int) C N E (q0.set s ((fo (en E) s : Nat) : Int)) := by
 have hE := h.el; have hk2 := h.k2
 have hgs : ∀ c : Int, (q0.set s c).getD s 0 = c := fun c => by rw [getD_set', if_pos ⟨rfl, by omega⟩]
 have s0 : decide (0 ≤ (s : Int)) = true := decide_eq_true (by omega)
 have s1 : ∀ c : Int, decide ((s : Int) < ((q0.set s c).length : Int)) = true := fun c => decide_eq_true (by rw [List.length_set]; omega)
 have s2 : decide ((s : Int) < (E.length : Int)) = true := decide_eq_true (by omega)
 have := loop_inv (fun kk c (_ : Unit) => yy28_l8 kf kk v11 (s : Int) C N E Ke (q0.set s ((c : Nat) : Int))) (Ke v11 (s : Int) C N E (q0.set s ((fo (en E) s : Nat) : Int))) s 0 (fun c _ => ∀ u, u < c → en E u ≠ en E s) ?_ ?_ s k0 0 () (by omega) (by omega) (fun u hu => by omega)
 ·rw [set_zero h0] at this; exact this
 ·intro kk _ hall
  have hf : fo (en E) s = s := fo_of_fst (fstO_iff.2 hall)
  rw [yy28_l8]
  unfold yy28_l8_b
  rw [s0, gd_true rfl, s1, gd_true rfl, Int.toNat_natCast, hgs, decide_eq_false (show ¬ ((s : Int) < (s : Int)) by omega), cond_false, hf]
 ·intro kk c _ _ hc hall
  have c0 : decide (0 ≤ (c : Int)) = true := decide_eq_true (by omega)
  have c1 : decide ((c : Int) < (E.length : Int)) = true := decide_eq_true (by omega)
  have hun : yy28_l8 kf (kk + 1) v11 (s : Int) C N E Ke (q0.set s ((c : Nat) : Int)) = bif (!(decide (E.getD c false = E.getD s false))) then yy28_l8 kf kk v11 (s : Int) C N E Ke (q0.set s ((c + 1 : Nat) : Int)) else Ke v11 (s : Int) C N E (q0.set s ((c : Nat) : Int)) := by
   rw [yy28_l8]
   unfold yy28_l8_b
   rw [s0, gd_true rfl, s1, gd_true rfl, Int.toNat_natCast, hgs, decide_eq_true (show (c : Int) < (s : Int) by omega), cond_true, gd_true rfl, gd_true rfl, c0, gd_true rfl, c1, gd_true rfl, gd_true rfl, s2, gd_true rfl, Int.toNat_natCast, gd_true rfl, gd_true rfl, gd_true rfl, gd_true rfl, List.set_set, wi_1 c (by omega)]
  rw [hun]
  by_cases he : E.getD c false = E.getD s false
  ·right
   have hf : fo (en E) s = c := by
    rw [fo_iff.2 (show en E s = en E c from he.symm)]
    exact fo_of_fst (fstO_iff.2 fun u hu q => hall u hu (q.trans he))
   rw [decide_eq_true he, Bool.not_true, cond_false, hf]
  ·left
   refine ⟨(), fun u hu => ?_, ?_⟩
   ·by_cases huc : u = c
    ·subst huc; exact he
    ·exact hall u (by omega)
   ·rw [decide_eq_false he, Bool.not_false, cond_true]
theorem q17_ok (h : Mch C N E k m) (kf k0 : Nat) (hkf : 1000 ≤ kf) (p : Nat → Nat) (l : List Int) (hl : PL k p l) (s : Nat) (hs : s < k) (hk0 : s < k0) (v42 : Int) (v43 : Bool) (q0 : List Int) (hq : q0.length = k) (h0 : q0.getD s 0 = 0) (Ke : Int → Bool → Int → List Int → List (List Int) → List Bool → List Int → List Int → Option R) :
  yy28_l17 kf k0 v42 v43 (s : Int) C N E l Ke q0 = Ke v42 v43 (s : Int) C N E l (q0.set s ((fo (sig N m p) s : Nat) : Int)) := by
 have hE := h.el; have hk2 := h.k2
 have hgs : ∀ c : Int, (q0.set s c).getD s 0 = c := fun c => by rw [getD_set', if_pos ⟨rfl, by omega⟩]
 have s0 : decide (0 ≤ (s : Int)) = true := decide_eq_true (by omega)
 have s1 : ∀ c : Int, decide ((s : Int) < ((q0.set s c).length : Int)) = true := fun c => decide_eq_true (by rw [List.length_set]; omega)
 have := loop_inv (fun kk c (_ : Unit) => yy28_l17 kf kk v42 v43 (s : Int) C N E l Ke (q0.set s ((c : Nat) : Int))) (Ke v42 v43 (s : Int) C N E l (q0.set s ((fo (sig N m p) s : Nat) : Int))) s 0 (fun c _ => ∀ u, u < c → sig N m p u ≠ sig N m p s) ?_ ?_ s k0 0 () (by omega) (by omega) (fun u hu => by omega)
 ·rw [set_zero h0] at this; exact this
 ·intro kk _ hall
  have hf : fo (sig N m p) s = s := fo_of_fst (fstO_iff.2 hall)
  rw [yy28_l17]
  unfold yy28_l17_b
  rw [s0, gd_true rfl, s1, gd_true rfl, Int.toNat_natCast, hgs, decide_eq_false (show ¬ ((s : Int) < (s : Int)) by omega), cond_false, hf]
 ·intro kk c _ _ hc hall
  have hun : yy28_l17 kf (kk + 1) v42 v43 (s : Int) C N E l Ke (q0.set s ((c : Nat) : Int)) = bif (!(decide (sig N m p c = sig N m p s))) then yy28_l17 kf kk v42 v43 (s : Int) C N E l Ke (q0.set s ((c + 1 : Nat) : Int)) else Ke v42 v43 (s : Int) C N E l (q0.set s ((c : Nat) : Int)) := by
   rw [yy28_l17]
   unfold yy28_l17_b
   rw [s0, gd_true rfl, s1, gd_true rfl, Int.toNat_natCast, hgs, decide_eq_true (show (c : Int) < (s : Int) by omega), cond_true, gd_true rfl, gd_true rfl, one_ok h kf hkf p l hl c s (by omega) hs, gd_true rfl, gd_true rfl, gd_true rfl, gd_true rfl, List.set_set, wi_1 c (by omega)]
  rw [hun]
  by_cases he : sig N m p c = sig N m p s
  ·right
   have hf : fo (sig N m p) s = c := by
    rw [fo_iff.2 he.symm]
    exact fo_of_fst (fstO_iff.2 fun u hu q => hall u hu (q.trans he))
   rw [decide_eq_true he, Bool.not_true, cond_false, hf]
  ·left
   refine ⟨(), fun u hu => ?_, ?_⟩
   ·by_cases huc : u = c
    ·subst huc; exact he
    ·exact hall u (by omega)
   ·rw [decide_eq_false he, Bool.not_false, cond_true]
end
end Go.Ab.T

/- The reference's parts: of each state the lowest one that is one with it. -/
namespace Go.Ab.T
open Go Go.Ab
set_option linter.unusedVariables false
set_option linter.unusedSimpArgs false
section
variable {R : Type} {C : List Int} {N : List (List Int)} {E : List Bool} {k m : Nat}
def pf (l : List Int) (s : Nat) : Nat := (l.getD s 0).toNat
structure RI (C : List Int) (N : List (List Int)) (E : List Bool) (k : Nat) (l : List Int) : Prop where
 pl : PL k (pf l) l
 rnd : Rnd C N E k (pf l)
 low : ∀ s, s < k → fo (pf l) s = pf l s
theorem PL.of {σ : Nat → Nat} {l : List Int} (h : PL k σ l) : PL k (pf l) l ∧ ∀ s, s < k → pf l s = σ s := by
 have e : ∀ s, s < k → pf l s = σ s := fun s hs => by unfold pf; rw [h.2 s hs, Int.toNat_natCast]
 exact ⟨⟨h.1, fun s hs => by rw [e s hs, h.2 s hs]⟩, e⟩
theorem RI.of {α : Type} [DecidableEq α] (h : Mch C N E k m) {σ : Nat → α} {l : List Int} (hl : PL k (fo σ) l) (h1 : gapless C → ∀ s t, s < k → t < k → eqs C N E s t → σ s = σ t) (h2 : ∀ s t, s < k → t < k → σ s = σ t → en E s = en E t) : RI C N E k l := by
 obtain ⟨q1, q2⟩ := hl.of
 have hk : Ker (pf l) σ k := fun s t hs ht => by rw [q2 s hs, q2 t ht, fo_iff]
 have hk2 := h.k2
 refine ⟨q1, ⟨fun hg s t hs ht he => (hk s t hs ht).2 (h1 hg s t hs ht he), fun s t hs ht he => h2 s t hs ht ((hk s t hs ht).1 he), fun s hs => ?_⟩, fun s hs => ?_⟩
 ·rw [q2 s hs]
  have := (fo_spec σ s).1
  omega
 ·rw [hk.fo hs, q2 s hs]
theorem q15_ok (h : Mch C N E k m) (kf k0 : Nat) (hkf : 3000 ≤ kf) (hk0 : 5000 < k0) (p : Nat → Nat) (l : List Int) (hl : PL k p l) (Ke : Int → Bool → List Int → List (List Int) → List Bool → List Int → Option R) (T : Option R)
  (hT : ∀ (b : Bool) (l' : List Int), PL k (fo (sig N m p)) l' → (b = true → ∃ s, s < k ∧ fo (sig N m p) s ≠ p s) → (b = false → ∀ s, s < k → fo (sig N m p) s = p s) → Ke (k : Int) b C N E l' = T) :
  yy28_l15 kf k0 Ke (k : Int) false 0 C N E l (List.replicate k (0 : Int)) = T := by
 have hk2 := h.k2; have hl1 := hl.1
 refine loop_all (fun kk s (acc : Bool × List Int) => yy28_l15 kf kk Ke (k : Int) acc.1 (s : Int) C N E l acc.2) T k 2500
  (fun s acc => acc.2.length = k ∧ (∀ t, t < k → acc.2.getD t 0 = if t < s then ((fo (sig N m p) t : Nat) : Int) else 0) ∧ (acc.1 = true → ∃ t, t < s ∧ fo (sig N m p) t ≠ p t) ∧ (acc.1 = false → ∀ t, t < s → fo (sig N m p) t = p t)) ?_ ?_ k k0 0 (false, List.replicate k (0 : Int)) (by omega) (by omega)
  ⟨List.length_replicate, fun t ht => by rw [if_neg (by omega)]; exact getD_rep _ _ _, fun q => (by cases q), fun _ t ht => by omega⟩
 ·rintro kk ⟨b, q⟩ ⟨h1, h2, h3, h4⟩
  dsimp only at h1 h2 h3 h4 ⊢
  rw [yy28_l15]
  unfold yy28_l15_b
  rw [decide_eq_false (show ¬ ((k : Int) < (k : Int)) by omega), cond_false]
  exact hT b q ⟨h1, fun s hs => by rw [h2 s hs, if_pos hs]⟩ h3 h4
 ·rintro kk s ⟨b, q⟩ hB hs ⟨h1, h2, h3, h4⟩ hrest
  dsimp only at h1 h2 h3 h4 hrest ⊢
  have h0 : q.getD s 0 = 0 := by rw [h2 s hs, if_neg (by omega)]
  rw [yy28_l15]
  unfold yy28_l15_b
  rw [decide_eq_true (show (s : Int) < (k : Int) by omega), cond_true, q17_ok h kf kk (by omega) p l hl s hs (by omega) _ _ q h1 h0, wi_1 s (by omega)]
  have hset : ∀ t, t < k → (q.set s ((fo (sig N m p) s : Nat) : Int)).getD t 0 = if t < s + 1 then ((fo (sig N m p) t : Nat) : Int) else 0 := by
   intro t ht
   rw [getD_set']
   by_cases hst : s = t
   ·subst hst
    rw [if_pos ⟨rfl, by omega⟩, if_pos (by omega)]
   ·rw [if_neg (fun z => hst z.1), h2 t ht]
    by_cases hlt : t < s
    ·rw [if_pos hlt, if_pos (by omega)]
    ·rw [if_neg hlt, if_neg (by omega)]
  cases b with
  | true =>
   rw [cond_true]
   refine hrest (true, _) ⟨by rw [List.length_set]; exact h1, hset, fun _ => ?_, fun q => (by cases q)⟩
   obtain ⟨t, ht, he⟩ := h3 rfl
   exact ⟨t, by omega, he⟩
  | false =>
   rw [cond_false, gdd (by omega), gdd (by rw [List.length_set]; omega), gdd (by omega), gdd (by omega), Int.toNat_natCast, hset s hs, if_pos (by omega), hl.2 s hs]
   refine hrest (_, _) ⟨by rw [List.length_set]; exact h1, hset, fun he => ⟨s, by omega, fun q => ?_⟩, fun he t ht => ?_⟩
   ·dsimp only at he
    rw [q, decide_eq_true rfl] at he
    cases he
   ·dsimp only at he
    by_cases hts : t = s
    ·subst hts
     have := of_decide_eq_true (Bool.not_inj (he.trans Bool.not_true.symm))
     omega
    ·exact h4 rfl t (by omega)
theorem rparts_ok (h : Mch C N E k m) (kf : Nat) (hkf : 20000 ≤ kf) (K : List Int → Option R) (T : Option R)
  (hT : ∀ (f : Nat → Nat) (l : List Int), PL k f l → Prt C N E k f → (∀ s, s < k → f s ≤ s ∧ f (f s) = f s) → K l = T) : yy28 kf C N E K = T := by
 unfold yy28 yy28_b
 have hN := h.nl; have hE := h.el; have hk2 := h.k2; have hk1 := h.k1
 rw [rmay_ok h kf (by omega), Bool.not_true, cond_false, hN, gdd (by omega), gdd (by omega), gdd (by rw [small_eq]; omega), Int.toNat_natCast]
 refine loop_all (fun kk s (q : List Int) => yy28_l6 kf kk (fun v23 v24 v25 v26 v27 => yy28_l11 kf kf (fun v65 => K v65) v23 true v24 v25 v26 v27) (k : Int) (s : Int) C N E q) T k 2500
  (fun s q => q.length = k ∧ ∀ t, t < k → q.getD t 0 = if t < s then ((fo (en E) t : Nat) : Int) else 0) ?_ ?_ k kf 0 (List.replicate k (0 : Int)) (by omega) (by omega)
  ⟨List.length_replicate, fun t ht => by rw [if_neg (by omega)]; exact getD_rep _ _ _⟩
 ·rintro kk q ⟨h1, h2⟩
  rw [yy28_l6]
  unfold yy28_l6_b
  rw [decide_eq_false (show ¬ ((k : Int) < (k : Int)) by omega), cond_false]
  have hq : PL k (fo (en E)) q := ⟨h1, fun s hs => by rw [h2 s hs, if_pos hs]⟩
  refine loop_meas (fun kk (acc : Bool × List Int) => yy28_l11 kf kk (fun v65 => K v65) (k : Int) acc.1 C N E acc.2) T (fun acc => 2 * (k - nf (pf acc.2) k) + if acc.1 = true then 1 else 0) 6000
   (fun acc => RI C N E k acc.2 ∧ (acc.1 = false → ∀ s t, s < k → t < k → pf acc.2 s = pf acc.2 t → sig N m (pf acc.2) s = sig N m (pf acc.2) t)) ?_ kf (true, q) (by simp only [if_true]; omega)
   ⟨RI.of h hq (fun _ s t _ _ he => he [] (by intro b hb; cases hb)) (fun s t _ _ he => he), fun z => (by cases z)⟩
  rintro kk ⟨b, l⟩ hB ⟨hri, hst⟩ hrest
  dsimp only at hri hst hrest ⊢
  rw [yy28_l11]
  unfold yy28_l11_b
  cases b with
  | false =>
   rw [cond_false]
   have hlo : ∀ s, s < k → pf l s ≤ s ∧ pf l (pf l s) = pf l s := fun s hs' => by
    obtain ⟨a1, a2, a3⟩ := fo_spec (pf l) s
    rw [hri.low s hs'] at a1 a3
    exact ⟨a1, a3⟩
   refine hT (pf l) l hri.pl ⟨fun s t b hs ht hb he => ?_, hri.rnd.ends, hri.rnd.fine, fun s hs => by have := hlo s hs; omega, by have := hlo 0 h.k1; omega⟩ hlo
   exact (sig_iff.1 (hst rfl s t hs ht he)).2 (C.getD b 0).toNat (h.cls_lt b hb).1
  | true =>
   rw [cond_true, gdd (by omega), gdd (by omega), gdd (by rw [small_eq]; omega), Int.toNat_natCast]
   refine q15_ok h kf kk (by omega) (by omega) (pf l) l hri.pl _ T fun b' l' hl' hb1 hb2 => ?_
   have hround := hri.rnd.round h
   have hri' : RI C N E k l' := RI.of h hl' (fun hg s t hs ht he => ix_iff.1 (hround.fine hg s t hs ht he)) (fun s t hs ht he => hround.ends s t hs ht (ix_iff.2 he))
   obtain ⟨o1, o2⟩ := hl'.of
   have hker : Ker (pf l') (sig N m (pf l)) k := fun s t hs ht => by rw [o2 s hs, o2 t ht, fo_iff]
   have hnfle := nf_le (pf l') k
   refine hrest (b', l') ⟨hri', fun hb => ?_⟩ ?_
   ·dsimp only at hb ⊢
    have hall := hb2 hb
    have hll : l' = l := ext_getD 0 (by rw [hl'.1, hri.pl.1]) fun i hi => by
     have hi' : i < k := by rw [hl'.1] at hi; exact hi
     rw [hl'.2 i hi', hri.pl.2 i hi', hall i hi']
    subst hll
    intro s t hs ht he
    exact (hker s t hs ht).1 he
   ·dsimp only
    obtain ⟨r1, r2⟩ := nf_refine (σ := pf l) (τ := sig N m (pf l)) (k := k) fun s t hs ht he => (sig_iff.1 he).1
    rw [← hker.nf k (Nat.le_refl _)] at r1 r2
    cases b' with
    | false =>
     simp only [if_true, Bool.false_eq_true, if_false]
     omega
    | true =>
     obtain ⟨s, hs, hne⟩ := hb1 rfl
     have : nf (pf l') k ≠ nf (pf l) k := by
      intro heq
      have hk3 : Ker (sig N m (pf l)) (pf l) k := fun s t hs ht => ⟨fun he => (sig_iff.1 he).1, r2 heq s t hs ht⟩
      exact hne (by rw [hk3.fo hs, hri.low s hs])
     simp only [if_true]
     omega
 ·rintro kk s q hB hs ⟨h1, h2⟩ hrest
  have h0 : q.getD s 0 = 0 := by rw [h2 s hs, if_neg (by omega)]
  rw [yy28_l6]
  unfold yy28_l6_b
  rw [decide_eq_true (show (s : Int) < (k : Int) by omega), cond_true, q8_ok h kf kk s hs (by omega) _ q h1 h0, wi_1 s (by omega)]
  refine hrest _ ⟨by rw [List.length_set]; exact h1, fun t ht => ?_⟩
  rw [getD_set']
  by_cases hst : s = t
  ·subst hst
   rw [if_pos ⟨rfl, by omega⟩, if_pos (by omega)]
  ·rw [if_neg (fun z => hst z.1), h2 t ht]
   by_cases hlt : t < s
   ·rw [if_pos hlt, if_pos (by omega)]
   ·rw [if_neg hlt, if_neg (by omega)]
end
end Go.Ab.T

/- The reference's reach: which states are reached. -/
namespace Go.Ab.T
open Go Go.Ab
set_option linter.unusedVariables false
set_option linter.unusedSimpArgs false
def falses (k : Nat) (t : List Bool) : Nat := sumR k fun s => if t.getD s false = true then 0 else 1
theorem sumR_le {n : Nat} {f g : Nat → Nat} (h : ∀ i, i < n → f i ≤ g i) : sumR n f ≤ sumR n g := by
 induction n with
 | zero => exact Nat.le_refl _
 | succ n ih =>
  rw [sumR_succ, sumR_succ]
  have := ih fun i hi => h i (by omega)
  have := h n (by omega)
  omega
theorem sumR_lt {n : Nat} {f g : Nat → Nat} (h : ∀ i, i < n → f i ≤ g i) (i : Nat) (hi : i < n) (hl : f i < g i) : sumR n f < sumR n g := by
 induction n with
 | zero => omega
 | succ n ih =>
  rw [sumR_succ, sumR_succ]
  by_cases hin : i = n
  ·subst hin
   have := sumR_le (n := i) fun j hj => h j (by omega)
   omega
  ·have := ih (fun j hj => h j (by omega)) (by omega)
   have := h n (by omega)
   omega
theorem falses_le (k : Nat) (t : List Bool) : falses k t ≤ k := by
 have := sumR_le (n := k) (f := fun s => if t.getD s false = true then 0 else 1) (g := fun _ => 1) fun i _ => by split <;> omega
 rw [sumR_const] at this
 unfold falses; omega
theorem falses_set {k : Nat} {t : List Bool} (hl : t.length = k) {i : Nat} (hi : i < k) (hf : t.getD i false = false) : falses k (t.set i true) < falses k t := by
 have key : ∀ j, (t.set i true).getD j false = if i = j ∧ j < t.length then true else t.getD j false := fun j => getD_set' t i j true false
 unfold falses
 refine sumR_lt (fun j hj => ?_) i hi ?_
 ·simp only [key j]
  by_cases hij : i = j ∧ j < t.length
  ·rw [if_pos hij]; simp
  ·rw [if_neg hij]; exact Nat.le_refl _
 ·have ki := key i
  rw [if_pos ⟨rfl, by omega⟩] at ki
  simp only [ki, hf]
  simp
section
variable {R : Type} {C : List Int} {N : List (List Int)} {E : List Bool} {k m : Nat}
def cm (C : List Int) : Nat := (mxTo C 255).toNat + 1
theorem Mch.cm_eq (h : Mch C N E k m) : cm C = m := by
 have h1 := h.mx_eq; have h2 := h.m1
 unfold cm
 rw [h1]; omega
def rlsN (N : List (List Int)) : Nat → List Nat → Nat
 | s, [] => s
 | s, a :: v => rlsN N (rowN N s a) v
theorem rlsN_snoc (N : List (List Int)) (a : Nat) : ∀ (v : List Nat) (s : Nat), rlsN N s (v ++ [a]) = rowN N (rlsN N s v) a
 | [], s => rfl
 | b :: v, s => rlsN_snoc N a v (rowN N s b)
def rch (C : List Int) (N : List (List Int)) (s : Nat) : Prop := ∃ v, (∀ a ∈ v, a < cm C) ∧ rlsN N 0 v = s
theorem rch_by (h : Mch C N E k m) {v : List Nat} (hv : isBy v) : rch C N (dls C N 0 v) := by
 have key : ∀ (v : List Nat) (s : Nat), dls C N s v = rlsN N s (v.map fun b => (C.getD b 0).toNat) := by
  intro v
  induction v with
  | nil => intro s; rfl
  | cons b v ih => intro s; exact ih _
 refine ⟨_, fun a ha => ?_, (key v 0).symm⟩
 obtain ⟨b, hb, rfl⟩ := List.mem_map.1 ha
 rw [h.cm_eq]
 exact (h.cls_lt b (hv b hb)).1
theorem rch_of (h : Mch C N E k m) (hg : gapless C) {s : Nat} (hs : rch C N s) : ∃ v, isBy v ∧ dls C N 0 v = s := by
 obtain ⟨v, hv, rfl⟩ := hs
 have key : ∀ (v : List Nat) (s : Nat), (∀ a ∈ v, a < cm C) → ∃ w, isBy w ∧ dls C N s w = rlsN N s v := by
  intro v
  induction v with
  | nil => intro s _; exact ⟨[], (by intro b hb; cases hb), rfl⟩
  | cons a v ih =>
   intro s hv
   have ha := hv a (by simp)
   rw [h.cm_eq] at ha
   obtain ⟨b, hb, he⟩ := h.inh hg a ha
   obtain ⟨w, w1, w2⟩ := ih (rowN N s a) fun x hx => hv x (by simp [hx])
   refine ⟨b :: w, fun x hx => ?_, ?_⟩
   ·rcases List.mem_cons.1 hx with rfl | hx
    ·exact hb
    ·exact w1 x hx
   ·show dls C N (dl C N s b) w = rlsN N (rowN N s a) v
    rw [← w2]
    congr 1
    unfold dl rowN
    rw [he]; rfl
 exact key v 0 hv
theorem rch_step (h : Mch C N E k m) {s a : Nat} (hs : rch C N s) (ha : a < m) : rch C N (rowN N s a) := by
 obtain ⟨v, hv, rfl⟩ := hs
 refine ⟨v ++ [a], ?_, rlsN_snoc N a v 0⟩
 intro x hx
 rcases List.mem_append.1 hx with q | q
 ·exact hv x q
 ·rw [List.mem_singleton.1 q, h.cm_eq]; exact ha
theorem rch_in (h : Mch C N E k m) {t : List Bool} (h0 : t.getD 0 false = true) (hc : ∀ s, s < k → t.getD s false = true → ∀ a, a < m → t.getD (rowN N s a) false = true) {s : Nat} (hs : rch C N s) : t.getD s false = true := by
 obtain ⟨v, hv, rfl⟩ := hs
 have key : ∀ (v : List Nat) (s : Nat), s < k → t.getD s false = true → (∀ a ∈ v, a < cm C) → t.getD (rlsN N s v) false = true := by
  intro v
  induction v with
  | nil => intro s _ q _; exact q
  | cons b r ih =>
   intro s hs q hv
   have hb := hv b (List.mem_cons_self ..)
   rw [h.cm_eq] at hb
   exact ih _ (h.row_lt hs hb).1 (hc s hs q _ hb) fun x hx => hv x (List.mem_cons_of_mem _ hx)
 exact key v 0 h.k1 h0 hv
structure Grow (C : List Int) (N : List (List Int)) (k : Nat) (t : List Bool) (ag : Bool) (t' : List Bool) : Prop where
 len : t'.length = k
 snd : ∀ s, s < k → t'.getD s false = true → rch C N s
 mono : ∀ s, s < k → t.getD s false = true → t'.getD s false = true
 less : ag = true → falses k t' < falses k t
 same : ag = false → t' = t
theorem Grow.set {t t' : List Bool} {ag : Bool} (h : Grow C N k t ag t') {x : Nat} (hx : x < k) (hr : rch C N x) : Grow C N k t (ag || !(t'.getD x false)) (t'.set x true) := by
 have hl := h.len
 have hg : ∀ s, (t'.set x true).getD s false = if x = s ∧ x < t'.length then true else t'.getD s false := fun s => by
  rw [getD_set']
  by_cases hs : x = s
  ·subst hs; rfl
  ·rw [if_neg (fun q => hs q.1), if_neg (fun q => hs q.1)]
 cases hc : t'.getD x false with
 | true =>
  have : t'.set x true = t' := ext_getD false (List.length_set ..) fun i hi => by
   rw [hg]
   split
   ·rename_i q; rw [← q.1, hc]
   ·rfl
  rw [this, Bool.not_true, Bool.or_false]
  exact h
 | false =>
  rw [Bool.not_false, Bool.or_true]
  have hf := falses_set hl hx hc
  refine ⟨by rw [List.length_set]; exact hl, fun s hs hst => ?_, fun s hs hst => ?_, fun _ => ?_, fun q => (by cases q)⟩
  ·rw [hg] at hst
   by_cases hxs : x = s ∧ x < t'.length
   ·rw [← hxs.1]; exact hr
   ·rw [if_neg hxs] at hst; exact h.snd s hs hst
  ·rw [hg]
   split
   ·rfl
   ·exact h.mono s hs hst
  ·cases ag with
   | true => have := h.less rfl; omega
   | false => rw [← h.same rfl]; exact hf
theorem r12_ok (h : Mch C N E k m) (kf k0 : Nat) (hk0 : 300 < k0) (s : Nat) (hs : s < k) (t0 : List Bool) (ag : Bool) (t : List Bool) (hG : Grow C N k t0 ag t)
  (Ke : Bool → Int → List Int → List (List Int) → List Bool → List Bool → Option R) (T : Option R)
  (hT : ∀ ag' t', Grow C N k t0 ag' t' → (ag' = false → ag = false ∧ (t0.getD s false = true → ∀ a, a < m → t0.getD (rowN N s a) false = true)) → Ke ag' (s : Int) C N E t' = T) :
  yy29_l12 kf k0 (s : Int) C N E Ke ag 0 t = T := by
 have hm2 := h.m2; have hN := h.nl; have hm1 := h.m1
 obtain ⟨r1, r2⟩ := h.row s hs
 have g0 : decide (0 ≤ (s : Int)) = true := decide_eq_true (by omega)
 have g1 : decide ((s : Int) < (N.length : Int)) = true := decide_eq_true (by omega)
 cases hts : t.getD s false with
 | false =>
  obtain ⟨k1, rfl⟩ : ∃ k1, k0 = k1 + 1 := ⟨k0 - 1, by omega⟩
  have hl := hG.len
  rw [yy29_l12]
  unfold yy29_l12_b
  rw [g0, gd_true rfl, g1, gd_true rfl, Int.toNat_natCast, decide_eq_true (show (0 : Int) < ((N.getD s []).length : Int) by omega), cond_true, gd_true rfl, gdd (by omega), hts, cond_false]
  refine hT ag t hG fun q => ⟨q, fun z => ?_⟩
  rw [hG.same q] at hts
  rw [hts] at z; cases z
 | true =>
  refine loop_all (fun kk a (acc : Bool × List Bool) => yy29_l12 kf kk (s : Int) C N E Ke acc.1 (a : Int) acc.2) T m 0
   (fun a acc => Grow C N k t0 acc.1 acc.2 ∧ acc.2.getD s false = true ∧ (acc.1 = false → ag = false ∧ ∀ c, c < a → t0.getD (rowN N s c) false = true)) ?_ ?_ m k0 0 (ag, t) (by omega) (by omega) ⟨hG, hts, fun q => ⟨q, fun c hc => by omega⟩⟩
  ·rintro kk ⟨ag', t'⟩ ⟨q1, q2, q3⟩
   dsimp only at q1 q2 q3 ⊢
   rw [yy29_l12]
   unfold yy29_l12_b
   rw [g0, gd_true rfl, g1, gd_true rfl, Int.toNat_natCast, decide_eq_false (show ¬ ((m : Int) < ((N.getD s []).length : Int)) by omega), cond_false]
   exact hT ag' t' q1 fun q => ⟨(q3 q).1, fun _ a ha => (q3 q).2 a ha⟩
  ·rintro kk a ⟨ag', t'⟩ _ ha ⟨q1, q2, q3⟩ hrest
   dsimp only at q1 q2 q3 hrest ⊢
   obtain ⟨x, hx, hxe⟩ := r2 a ha
   have ex : rowN N s a = x := by unfold rowN; rw [hxe, Int.toNat_natCast]
   have hl := q1.len
   have hrs : rch C N s := q1.snd s hs q2
   have hrx : rch C N x := by rw [← ex]; exact rch_step h hrs ha
   have a0 : decide (0 ≤ (a : Int)) = true := decide_eq_true (by omega)
   have a1 : decide ((a : Int) < ((N.getD s []).length : Int)) = true := decide_eq_true (by omega)
   have x0 : decide (0 ≤ (x : Int)) = true := decide_eq_true (by omega)
   have x1 : decide ((x : Int) < (t'.length : Int)) = true := decide_eq_true (by omega)
   have hnew : ((ag' || !(t'.getD x false)) = false → ag = false ∧ ∀ c, c < a + 1 → t0.getD (rowN N s c) false = true) := by
    intro q
    rw [Bool.or_eq_false_iff] at q
    obtain ⟨z1, z2⟩ := q3 q.1
    refine ⟨z1, fun c hc => ?_⟩
    by_cases hca : c = a
    ·subst hca
     have := q1.same q.1
     rw [ex, ← this]
     exact Bool.not_inj (q.2.trans Bool.not_true.symm)
    ·exact z2 c (by omega)
   have hst : (t'.set x true).getD s false = true := by
    rw [getD_set']
    split
    ·rfl
    ·exact q2
   have hR := hrest ((ag' || !(t'.getD x false)), t'.set x true) ⟨q1.set hx hrx, hst, hnew⟩
   rw [yy29_l12]
   unfold yy29_l12_b
   dsimp only
   rw [g0, gd_true rfl, g1, gd_true rfl, Int.toNat_natCast, Int.toNat_natCast, a1, cond_true, gd_true rfl, gd_true rfl, gdd (by omega), q2, cond_true]
   cases ag' with
   | true =>
    rw [cond_true, gd_true rfl, gd_true rfl, a0, gd_true rfl, hxe, x0, gd_true rfl, x1, gd_true rfl, Int.toNat_natCast, wi_1 a (by omega)]
    exact hR
   | false =>
    rw [cond_false, gd_true rfl, gd_true rfl, a0, gd_true rfl, gd_true rfl, hxe, x0, gd_true rfl, x1, gd_true rfl, gd_true rfl, gd_true rfl, gd_true rfl, gd_true rfl, gd_true rfl, gd_true rfl, Int.toNat_natCast, wi_1 a (by omega)]
    exact hR
theorem rreach_ok (h : Mch C N E k m) (kf : Nat) (hkf : 20000 ≤ kf) (K : List Bool → Option R) (T : Option R)
  (hT : ∀ t : List Bool, t.length = k → (∀ s, s < k → (t.getD s false = true ↔ rch C N s)) → K t = T) : yy29 kf C N E K = T := by
 unfold yy29 yy29_b
 have hN := h.nl; have hk2 := h.k2; have hk1 := h.k1
 rw [rmay_ok h kf (by omega), Bool.not_true, cond_false, hN, gdd (by omega), gdd (by omega), gdd (by rw [small_eq]; omega), Int.toNat_natCast, gdd (by rw [List.length_replicate]; omega)]
 have hz : ∀ s, ((List.replicate k false).set 0 true).getD s false = true → s = 0 := by
  intro s hs
  rw [getD_set'] at hs
  by_cases h0 : s = 0
  ·exact h0
  ·rw [if_neg (fun q => h0 q.1.symm), getD_rep] at hs; cases hs
 refine loop_meas (fun kk (acc : Bool × List Bool) => yy29_l6 kf kk (fun v36 => K v36) acc.1 C N E acc.2) T (fun acc => 2 * falses k acc.2 + if acc.1 = true then 1 else 0) 5000
  (fun acc => acc.2.length = k ∧ (∀ s, s < k → acc.2.getD s false = true → rch C N s) ∧ acc.2.getD 0 false = true ∧
   (acc.1 = false → ∀ s, s < k → acc.2.getD s false = true → ∀ a, a < m → acc.2.getD (rowN N s a) false = true)) ?_ kf (true, (List.replicate k false).set 0 true)
  (by have := falses_le k ((List.replicate k false).set 0 true); simp only [if_true]; omega)
  ⟨by simp only [List.length_set, List.length_replicate], fun s hs q => ⟨[], (by intro b hb; cases hb), (hz s q).symm⟩, by rw [getD_set', if_pos ⟨rfl, by rw [List.length_replicate]; omega⟩], fun q => by cases q⟩
 rintro kk ⟨ag, t⟩ hB ⟨h1, h2, h3, h4⟩ hrest
 dsimp only at h1 h2 h3 h4 hrest ⊢
 rw [yy29_l6]
 unfold yy29_l6_b
 cases ag with
 | false =>
  rw [cond_false]
  exact hT t h1 fun s hs => ⟨h2 s hs, fun q => rch_in h h3 (h4 rfl) q⟩
 | true =>
  rw [cond_true]
  refine loop_all (fun kk2 i (acc : Bool × List Bool) => yy29_l9 kf kk2 (fun v31 v32 v33 v34 v35 => yy29_l6 kf kk (fun v36 => K v36) v31 v32 v33 v34 v35) acc.1 (i : Int) C N E acc.2) T k 400
   (fun i acc => Grow C N k t acc.1 acc.2 ∧ (acc.1 = false → ∀ j, j < i → t.getD j false = true → ∀ a, a < m → t.getD (rowN N j a) false = true)) ?_ ?_ k kk 0 (false, t) (by omega) (by omega)
   ⟨⟨h1, h2, fun s _ q => q, fun q => (by cases q), fun _ => rfl⟩, fun _ j hj => by omega⟩
  ·rintro kk2 ⟨ag', t'⟩ ⟨q1, q2⟩
   dsimp only at q1 q2 ⊢
   have hl := q1.len
   rw [yy29_l9]
   unfold yy29_l9_b
   rw [decide_eq_false (show ¬ ((k : Int) < (t'.length : Int)) by omega), cond_false]
   refine hrest (ag', t') ⟨q1.len, q1.snd, q1.mono 0 (by omega) h3, fun q => ?_⟩ ?_
   ·dsimp only at q ⊢
    rw [q1.same q]
    exact q2 q
   ·dsimp only
    cases ag' with
    | true => have := q1.less rfl; simp only [if_true]; omega
    | false => rw [q1.same rfl]; simp
  ·rintro kk2 i ⟨ag', t'⟩ hB2 hi ⟨q1, q2⟩ hrest2
   dsimp only at q1 q2 hrest2 ⊢
   have hl := q1.len
   rw [yy29_l9]
   unfold yy29_l9_b
   rw [decide_eq_true (show (i : Int) < (t'.length : Int) by omega), cond_true]
   refine r12_ok h kf kk2 (by omega) i hi t ag' t' q1 _ T fun ag2 t2 hG2 hcl => ?_
   rw [wi_1 i (by omega)]
   refine hrest2 (ag2, t2) ⟨hG2, fun q j hj => ?_⟩
   obtain ⟨z1, z2⟩ := hcl q
   by_cases hji : j = i
   ·subst hji; exact z2
   ·exact q2 z1 j (by omega)
end
end Go.Ab.T

/- The reference's least machine: which bytes it holds for one. -/
namespace Go.Ab.T
open Go Go.Ab
set_option linter.unusedVariables false
set_option linter.unusedSimpArgs false
set_option linter.unusedSectionVars false
theorem FL_idx {α : Type} [DecidableEq α] {σ : Nat → α} : ∀ c i, i < (FL σ c).length → nf σ ((FL σ c).getD i 0) = i := by
 intro c
 induction c with
 | zero => intro i hi; simp [FL] at hi
 | succ c ih =>
  intro i hi
  rw [FL_succ] at hi ⊢
  cases hfc : fstO σ c with
  | true =>
   rw [hfc, if_pos rfl] at hi
   rw [if_pos rfl, snoc_getD]
   by_cases hil : i < (FL σ c).length
   ·rw [if_pos hil]; exact ih i hil
   ·have : i = (FL σ c).length := by simp at hi; omega
    rw [if_neg hil, if_pos this, this, FL_len]
  | false =>
   rw [hfc] at hi
   rw [if_neg (by simp), List.append_nil] at hi ⊢
   exact ih i hi
def col (N : List (List Int)) (f : Nat → Nat) (t : List Bool) (k a : Nat) : List Nat := (List.range k).map fun s => if t.getD s false = true then f (rowN N s a) else 0
theorem col_iff {N : List (List Int)} {f : Nat → Nat} {t : List Bool} {k a b : Nat} : col N f t k a = col N f t k b ↔ ∀ s, s < k → t.getD s false = true → f (rowN N s a) = f (rowN N s b) := by
 unfold col
 constructor
 ·intro h s hs ht
  have := congrArg (fun l => l[s]?) h
  simp only [List.getElem?_map, List.getElem?_range hs, Option.map_some, Option.some.injEq] at this
  rwa [if_pos ht, if_pos ht] at this
 ·intro h
  refine List.map_congr_left fun s hs => ?_
  by_cases ht : t.getD s false = true
  ·rw [if_pos ht, if_pos ht, h s (List.mem_range.1 hs) ht]
  ·rw [if_neg ht, if_neg ht]
section
variable {R : Type} {C : List Int} {N : List (List Int)} {E : List Bool} {k m : Nat}
theorem alike_ok (h : Mch C N E k m) (kf : Nat) (hkf : 3000 ≤ kf) (f : Nat → Nat) (l : List Int) (hl : PL k f l) (t : List Bool) (ht : t.length = k) (a b : Nat) (ha : a < m) (hb : b < m) (K : Bool → Option R) :
  yy32 kf C N E l t (a : Int) (b : Int) K = K (decide (col N f t k a = col N f t k b)) := by
 have hN := h.nl; have hk2 := h.k2; have hl1 := hl.1
 unfold yy32 yy32_b
 refine loop_inv (fun kk i (_ : Unit) => yy32_l2 kf kk l t (a : Int) (b : Int) N (fun v18 => K v18) (K true) (i : Int)) _ k 0 (fun i _ => ∀ s, s < i → t.getD s false = true → f (rowN N s a) = f (rowN N s b)) ?_ ?_ k kf 0 () (by omega) (by omega) (fun s hs => by omega)
 ·intro kk _ hall
  rw [yy32_l2]
  unfold yy32_l2_b
  rw [decide_eq_false (show ¬ ((k : Int) < (N.length : Int)) by omega), cond_false, decide_eq_true (col_iff.2 hall)]
 ·intro kk s _ _ hs hall
  obtain ⟨r1, r2⟩ := h.row s hs
  have s0 : decide (0 ≤ (s : Int)) = true := decide_eq_true (by omega)
  have s1 : decide ((s : Int) < (N.length : Int)) = true := decide_eq_true (by omega)
  have s2 : decide ((s : Int) < (t.length : Int)) = true := decide_eq_true (by omega)
  have a0 : decide (0 ≤ (a : Int)) = true := decide_eq_true (by omega)
  have a1 : decide ((a : Int) < ((N.getD s []).length : Int)) = true := decide_eq_true (by omega)
  have b0 : decide (0 ≤ (b : Int)) = true := decide_eq_true (by omega)
  have b1 : decide ((b : Int) < ((N.getD s []).length : Int)) = true := decide_eq_true (by omega)
  obtain ⟨x, hx, hxe⟩ := r2 a ha
  obtain ⟨y, hy, hye⟩ := r2 b hb
  have ex : rowN N s a = x := by unfold rowN; rw [hxe, Int.toNat_natCast]
  have ey : rowN N s b = y := by unfold rowN; rw [hye, Int.toNat_natCast]
  have x0 : decide (0 ≤ (x : Int)) = true := decide_eq_true (by omega)
  have x1 : decide ((x : Int) < (l.length : Int)) = true := decide_eq_true (by omega)
  have y0 : decide (0 ≤ (y : Int)) = true := decide_eq_true (by omega)
  have y1 : decide ((y : Int) < (l.length : Int)) = true := decide_eq_true (by omega)
  have hun : yy32_l2 kf (kk + 1) l t (a : Int) (b : Int) N (fun v18 => K v18) (K true) (s : Int) =
    bif (if t.getD s false = true then !(decide ((f x : Int) = (f y : Int))) else false) then K false else yy32_l2 kf kk l t (a : Int) (b : Int) N (fun v18 => K v18) (K true) ((s + 1 : Nat) : Int) := by
   rw [yy32_l2]
   unfold yy32_l2_b
   dsimp only
   rw [s1, cond_true, s0, gd_true rfl, s2, gd_true rfl, Int.toNat_natCast, wi_1 s (by omega)]
   cases t.getD s false with
   | false => rfl
   | true =>
    rw [cond_true, gd_true rfl, gd_true rfl, a0, gd_true rfl, Int.toNat_natCast, a1, gd_true rfl, hxe, x0, gd_true rfl, x1, gd_true rfl, gd_true rfl, gd_true rfl, b0, gd_true rfl, Int.toNat_natCast, b1, gd_true rfl, hye, y0, gd_true rfl, y1, gd_true rfl, Int.toNat_natCast, Int.toNat_natCast, hl.2 x hx, hl.2 y hy, if_pos rfl]
  rw [hun]
  by_cases hts : t.getD s false = true
  ·rw [if_pos hts]
   by_cases he : f x = f y
   ·left
    refine ⟨(), fun j hj hjt => ?_, ?_⟩
    ·by_cases hjs : j = s
     ·subst hjs; rw [ex, ey, he]
     ·exact hall j (by omega) hjt
    ·rw [decide_eq_true (show (f x : Int) = (f y : Int) by omega), Bool.not_true, cond_false]
   ·right
    rw [decide_eq_false (show ¬ ((f x : Int) = (f y : Int)) by omega), Bool.not_false, cond_true, decide_eq_false fun q => he (by rw [← ex, ← ey]; exact col_iff.1 q s hs hts)]
  ·left
   refine ⟨(), fun j hj hjt => ?_, ?_⟩
   ·by_cases hjs : j = s
    ·subst hjs; exact absurd hjt hts
    ·exact hall j (by omega) hjt
   ·rw [if_neg hts, cond_false]
def tau (C : List Int) (N : List (List Int)) (f : Nat → Nat) (t : List Bool) (k b : Nat) : List Nat := col N f t k (C.getD b 0).toNat
theorem l11_ok (h : Mch C N E k m) (kf k0 : Nat) (hkf : 3000 ≤ kf) (hk0 : 300 < k0) (f : Nat → Nat) (l : List Int) (hl : PL k f l) (t : List Bool) (ht : t.length = k) (b : Nat) (hb : b < 256) (v25 v28 : List Int) (v30 : List (List Int)) (v31 : List Bool) (v32 : List (List Int)) (v33 : List Bool)
  (Ke : Int → Int → List Int → List (List Int) → List Bool → List Int → List Int → List Bool → List Int → List Int → List (List Int) → List Bool → List (List Int) → List Bool → Option R) :
  yy26_l11 kf k0 (b : Int) C N E v25 l t v28 (castF (FL (tau C N f t k) b)) v30 v31 v32 v33 Ke 0 = Ke (b : Int) ((ix (tau C N f t k) b : Nat) : Int) C N E v25 l t v28 (castF (FL (tau C N f t k) b)) v30 v31 v32 v33 := by
 generalize hσ : tau C N f t k = σ
 have hnf := nf_le σ b
 have hcl : C.length = 256 := h.cl
 refine loop_inv (fun kk i (_ : Unit) => yy26_l11 kf kk (b : Int) C N E v25 l t v28 (castF (FL σ b)) v30 v31 v32 v33 Ke (i : Int)) _ (nf σ b) 0
  (fun i _ => ∀ j, j < i → σ ((FL σ b).getD j 0) ≠ σ b) ?_ ?_ (nf σ b) k0 0 () (by omega) (by omega) (by intro j hj; omega)
 ·intro kk _ hno
  have hf : fstO σ b = true := by
   rw [fstO_iff]
   intro u hu he
   obtain ⟨a1, a2, a3⟩ := fo_spec σ u
   have h1 := nf_lt (c := b) a2 (by omega)
   have h2 := FL_getD σ b (fo σ u) (by omega) a2
   exact hno _ h1 (by rw [h2, a3, he])
  rw [yy26_l11]
  unfold yy26_l11_b
  rw [castF_len, FL_len, decide_eq_false (show ¬ (((nf σ b : Nat) : Int) < ((nf σ b : Nat) : Int)) by omega), cond_false, ix_fst hf]
 ·intro kk i _ _ hi hno
  have hil : i < (FL σ b).length := by rw [FL_len]; exact hi
  obtain ⟨f1, f2⟩ := FL_mem (σ := σ) (c := b) (i := i) hil
  have hidx : ix σ ((FL σ b).getD i 0) = i := by rw [ix_fst f2, FL_idx b i hil]
  generalize hg : (FL σ b).getD i 0 = g at f1 f2 hidx
  obtain ⟨c1, c2⟩ := h.cls_lt b hb
  obtain ⟨d1, d2⟩ := h.cls_lt g (by omega)
  have hm2 := h.m2
  have e1 : IntKind.i64.wrap (C.getD b 0) = (((C.getD b 0).toNat : Nat) : Int) := by rw [c2, wi_n _ (by omega)]; omega
  have e2 : IntKind.i64.wrap (C.getD g 0) = (((C.getD g 0).toNat : Nat) : Int) := by rw [d2, wi_n _ (by omega)]; omega
  have hdec : decide (col N f t k (C.getD b 0).toNat = col N f t k (C.getD g 0).toNat) = decide (σ b = σ g) := by rw [← hσ]; rfl
  have hun : yy26_l11 kf (kk + 1) (b : Int) C N E v25 l t v28 (castF (FL σ b)) v30 v31 v32 v33 Ke (i : Int) =
    bif (!(decide (σ b = σ g))) then yy26_l11 kf kk (b : Int) C N E v25 l t v28 (castF (FL σ b)) v30 v31 v32 v33 Ke ((i + 1 : Nat) : Int) else Ke (b : Int) (i : Int) C N E v25 l t v28 (castF (FL σ b)) v30 v31 v32 v33 := by
   rw [yy26_l11]
   unfold yy26_l11_b
   rw [castF_len, decide_eq_true (show (i : Int) < ((FL σ b).length : Int) by omega), cond_true, gdd (by omega), gdd (by omega), gdd (by omega), gd_true rfl, Int.toNat_natCast, Int.toNat_natCast, castF_getD, hg, gdd (by omega), gdd (by omega), Int.toNat_natCast, e1, e2, alike_ok h kf hkf f l hl t ht _ _ c1 d1, hdec, wi_1 i (by omega)]
  rw [hun]
  by_cases he : σ b = σ g
  ·right
   rw [decide_eq_true he, Bool.not_true, cond_false, ix_iff.2 he, hidx]
  ·left
   refine ⟨(), fun j hj => ?_, ?_⟩
   ·by_cases hji : j = i
    ·subst hji; rw [hg]; exact fun q => he q.symm
    ·exact hno j (by omega)
   ·rw [decide_eq_false he, Bool.not_false, cond_true]
theorem l8r_ok (h : Mch C N E k m) (kf : Nat) (hkf : 3000 ≤ kf) (f : Nat → Nat) (l : List Int) (hl : PL k f l) (t : List Bool) (ht : t.length = k) (v11 : List Int) (v16 : List (List Int)) (v17 : List Bool) (v18 : List (List Int)) (v19 : List Bool)
  (Ke : List Int → List (List Int) → List Bool → List Int → List Int → List Int → List Int → List (List Int) → List Bool → List (List Int) → List Bool → Option R) (T : Option R)
  (hT : ∀ C' : List Int, C'.length = 256 → (∀ b, b < 256 → C'.getD b 0 = ((ix (tau C N f t k) b : Nat) : Int)) → Ke C N E v11 l C' (castF (FL (tau C N f t k) 256)) v16 v17 v18 v19 = T) :
  yy26_l8 kf kf Ke 0 C N E v11 l t (List.replicate 256 (0 : Int)) ([] : List Int) v16 v17 v18 v19 = T := by
 generalize hσ : tau C N f t k = σ at hT
 refine loop_all (fun kk b (acc : List Int) => yy26_l8 kf kk Ke (b : Int) C N E v11 l t acc (castF (FL σ b)) v16 v17 v18 v19) T 256 400
  (fun b acc => acc.length = 256 ∧ ∀ u, u < b → acc.getD u 0 = ((ix σ u : Nat) : Int)) ?_ ?_ 256 kf 0 (List.replicate 256 (0 : Int)) (by omega) (by omega) ⟨List.length_replicate, fun u hu => by omega⟩
 ·rintro kk acc ⟨h1, h2⟩
  rw [yy26_l8]
  unfold yy26_l8_b
  rw [decide_eq_false (show ¬ (((256 : Nat) : Int) < 256) by omega), cond_false]
  exact hT acc h1 h2
 ·rintro kk b acc hB hb ⟨h1, h2⟩ hrest
  have hnf := nf_le σ b
  have hixlt := ix_lt (σ := σ) (show b < b + 1 by omega)
  have hnf2 := nf_le σ (b + 1)
  have hw : IntKind.u8.wrap ((ix σ b : Nat) : Int) = ((ix σ b : Nat) : Int) := by rw [IntKind.wrap_u8]; omega
  have hset : (acc.set b ((ix σ b : Nat) : Int)).length = 256 ∧ ∀ u, u < b + 1 → (acc.set b ((ix σ b : Nat) : Int)).getD u 0 = ((ix σ u : Nat) : Int) := by
   refine ⟨by rw [List.length_set]; exact h1, fun u hu => ?_⟩
   rw [getD_set']
   by_cases hub : b = u
   ·subst hub; rw [if_pos ⟨rfl, by omega⟩]
   ·rw [if_neg (fun q => hub q.1), h2 u (by omega)]
  rw [yy26_l8]
  unfold yy26_l8_b
  rw [decide_eq_true (show (b : Int) < 256 by omega), cond_true]
  have hl11 := fun Ke => l11_ok (R := R) h kf kk hkf (by omega) f l hl t ht b hb v11 acc v16 v17 v18 v19 Ke
  rw [hσ] at hl11
  rw [hl11]
  dsimp only
  rw [Int.toNat_natCast, hw, wi_1 b (by omega)]
  have hR := hrest _ hset
  cases hf : fstO σ b with
  | true =>
   rw [ix_fst hf, castF_len, FL_len, decide_eq_true rfl, cond_true, gdd (by rw [small_eq]; simp; omega), gdd (by omega), gdd (by omega)]
   rw [FL_succ, hf, if_pos rfl, ix_fst hf] at hR
   have hcs : castF (FL σ b) ++ [(b : Int)] = castF (FL σ b ++ [b]) := by unfold castF; simp
   rw [hcs]
   exact hR
  | false =>
   have hne : ¬ ((ix σ b : Nat) : Int) = ((nf σ b : Nat) : Int) := by
    intro q
    have hfo := (fo_spec σ b).1
    have : fo σ b ≠ b := fun z => by have := (fo_spec σ b).2.1; rw [z, hf] at this; cases this
    have := nf_lt (c := b) (fo_spec σ b).2.1 (by omega)
    unfold ix at q
    omega
   rw [castF_len, FL_len, decide_eq_false hne, cond_false, gdd (by omega), gdd (by omega)]
   rw [FL_succ, hf, if_neg (by simp), List.append_nil] at hR
   exact hR
end
end Go.Ab.T

/- The reference's least machine is the language's own form. -/
namespace Go.Ab.T
open Go Go.Ab
set_option linter.unusedVariables false
set_option linter.unusedSimpArgs false
set_option linter.unusedSectionVars false
def fnd (q : Q) : List Int := q.map fun x => (x.1 : Int)
theorem fnd_len (q : Q) : (fnd q).length = q.length := by unfold fnd; rw [List.length_map]
theorem fnd_getD {q : Q} {j : Nat} (h : j < q.length) : (fnd q).getD j 0 = ((qs q j : Nat) : Int) := by
 unfold fnd qs
 rw [List.getD_eq_getElem?_getD, List.getElem?_map, List.getD_eq_getElem?_getD, List.getElem?_eq_getElem h]; rfl
theorem fnd_snoc (q : Q) (x : Nat × List Nat) : fnd q ++ [(x.1 : Int)] = fnd (q ++ [x]) := by unfold fnd; rw [List.map_append]; rfl
def Ext (q q' : Q) : Prop := ∃ y, q' = q ++ y
theorem Ext.refl (q : Q) : Ext q q := ⟨[], (List.append_nil q).symm⟩
theorem Ext.snoc {q q' : Q} (h : Ext q q') (x : Nat × List Nat) : Ext q (q' ++ [x]) := by
 obtain ⟨y, rfl⟩ := h
 exact ⟨y ++ [x], by rw [List.append_assoc]⟩
theorem Ext.len {q q' : Q} (h : Ext q q') : q.length ≤ q'.length := by
 obtain ⟨y, rfl⟩ := h
 rw [List.length_append]; omega
theorem Ext.qs {q q' : Q} (h : Ext q q') {i : Nat} (hi : i < q.length) : T.qs q' i = T.qs q i := by
 obtain ⟨y, rfl⟩ := h
 unfold T.qs
 rw [List.getD_eq_getElem?_getD, List.getD_eq_getElem?_getD, List.getElem?_append_left hi]
def RowS (δ : Nat → Nat → Nat) (F : List Nat) (q : Q) (i a : Nat) (row : List Int) : Prop := row.length = a ∧ ∀ c, c < a → ∃ j, j < q.length ∧ row.getD c 0 = (j : Int) ∧ qs q j = δ (qs q i) (F.getD c 0)
theorem RowS.grow {δ : Nat → Nat → Nat} {F : List Nat} {q q' : Q} {i a : Nat} {row : List Int} (h : RowS δ F q i a row) (he : Ext q q') (hi : i < q.length) : RowS δ F q' i a row := by
 refine ⟨h.1, fun c hc => ?_⟩
 obtain ⟨j, j1, j2, j3⟩ := h.2 c hc
 have := he.len
 exact ⟨j, by omega, j2, by rw [he.qs j1, he.qs hi, j3]⟩
theorem RowS.snoc {δ : Nat → Nat → Nat} {F : List Nat} {q : Q} {i a j : Nat} {row : List Int} (h : RowS δ F q i a row) (hj : j < q.length) (he : qs q j = δ (qs q i) (F.getD a 0)) : RowS δ F q i (a + 1) (row ++ [(j : Int)]) := by
 refine ⟨by rw [List.length_append, h.1]; rfl, fun c hc => ?_⟩
 rw [snoc_getD, h.1]
 by_cases hca : c < a
 ·rw [if_pos hca]; exact h.2 c hca
 ·have : c = a := by omega
  subst this
  rw [if_neg hca, if_pos rfl]
  exact ⟨j, hj, rfl, he⟩
def posn (σ : Nat → List Nat) (a : Nat) : Nat := if a < nf σ 256 then (FL σ 256).getD a 0 else 256
theorem posn_spec {σ : Nat → List Nat} {a : Nat} (h : a < nf σ 256) : posn σ a = (FL σ 256).getD a 0 ∧ posn σ a < 256 ∧ fstO σ (posn σ a) = true ∧ nf σ (posn σ a) = a := by
 have hl : a < (FL σ 256).length := by rw [FL_len]; exact h
 have e : posn σ a = (FL σ 256).getD a 0 := by unfold posn; rw [if_pos h]
 obtain ⟨f1, f2⟩ := FL_mem hl
 have f3 := FL_idx 256 a hl
 rw [← e] at f1 f2 f3
 exact ⟨e, f1, f2, f3⟩
theorem posn_zero (σ : Nat → List Nat) : posn σ 0 = 0 := by
 have hf : fstO σ 0 = true := fstO_iff.2 fun u hu => by omega
 have h1 : nf σ 0 < nf σ 256 := nf_lt hf (by omega)
 have h0 : nf σ 0 = 0 := rfl
 rw [h0] at h1
 rw [(posn_spec h1).1]
 have := FL_getD σ 256 0 (by omega) hf
 rwa [h0] at this
theorem posn_gap {σ : Nat → List Nat} {a g : Nat} (h : a < nf σ 256) (h1 : posn σ a + 1 ≤ g) (h2 : g < posn σ (a + 1)) (h3 : g < 256) : fstO σ g = false := by
 cases hf : fstO σ g with
 | false => rfl
 | true =>
  obtain ⟨p1, p2, p3, p4⟩ := posn_spec h
  have q1 := nf_lt (c := g) p3 (by omega)
  by_cases h4 : a + 1 < nf σ 256
  ·obtain ⟨r1, r2, r3, r4⟩ := posn_spec h4
   have := nf_lt (c := posn σ (a + 1)) hf h2
   omega
  ·have := nf_lt (c := 256) hf h3
   omega
theorem posn_le {σ : Nat → List Nat} {a : Nat} (h : a < nf σ 256) : posn σ a + 1 ≤ posn σ (a + 1) := by
 obtain ⟨p1, p2, p3, p4⟩ := posn_spec h
 by_cases h4 : a + 1 < nf σ 256
 ·obtain ⟨r1, r2, r3, r4⟩ := posn_spec h4
  apply Nat.succ_le_of_lt
  apply Nat.lt_of_not_le
  intro hle
  have := nf_mono σ (posn σ (a + 1)) (posn σ a - posn σ (a + 1))
  rw [show posn σ (a + 1) + (posn σ a - posn σ (a + 1)) = posn σ a by omega] at this
  omega
 ·have : posn σ (a + 1) = 256 := by unfold posn; rw [if_neg h4]
  omega
noncomputable def clx (σ : Nat → List Nat) (b : Nat) : Int := ((ix σ b : Nat) : Int)
theorem clx_iff {σ : Nat → List Nat} {b b' : Nat} : clx σ b = clx σ b' ↔ σ b = σ b' := by
 unfold clx
 rw [← ix_iff (σ := σ)]
 constructor
 ·intro h; omega
 ·intro h; rw [h]
theorem clx_rep {σ : Nat → List Nat} {b : Nat} : isR (clx σ) b ↔ fstO σ b = true := by
 rw [fstO_iff]
 constructor
 ·intro h u hu he; exact h u hu (clx_iff.2 he)
 ·intro h u hu he; exact h u hu (clx_iff.1 he)
section
variable {R : Type} {C : List Int} {N : List (List Int)} {E : List Bool} {k m : Nat}
theorem l26_ok (kf k0 : Nat) (q : Q) (hq : q.length ≤ 2000) (hk0 : 2100 < k0) (t : Nat) (v91 v92 : Int) (v95 : List Int) (v96 : List (List Int)) (v97 : List Bool) (v98 v99 v100 v101 v103 : List Int) (v104 : List (List Int)) (v105 : List Bool) (v106 : List (List Int)) (v107 : List Bool)
  (Ke : Int → Int → Int → Int → List Int → List (List Int) → List Bool → List Int → List Int → List Int → List Int → List Int → List Int → List (List Int) → List Bool → List (List Int) → List Bool → Option R) (T : Option R)
  (hT : ∀ j : Nat, (j < q.length ∧ qs q j = t) ∨ (j = q.length ∧ ∀ x ∈ q, x.1 ≠ t) → Ke v91 v92 (t : Int) (j : Int) v95 v96 v97 v98 v99 v100 v101 (fnd q) v103 v104 v105 v106 v107 = T) :
  yy26_l26 kf k0 v91 v92 (t : Int) v95 v96 v97 v98 v99 v100 v101 (fnd q) v103 v104 v105 v106 v107 Ke 0 = T := by
 refine loop_inv (fun kk j (_ : Unit) => yy26_l26 kf kk v91 v92 (t : Int) v95 v96 v97 v98 v99 v100 v101 (fnd q) v103 v104 v105 v106 v107 Ke (j : Int)) T q.length 0 (fun j _ => ∀ i, i < j → qs q i ≠ t) ?_ ?_ q.length k0 0 () (by omega) (by omega) (fun i hi => by omega)
 ·intro kk _ hno
  rw [yy26_l26]
  unfold yy26_l26_b
  rw [fnd_len, decide_eq_false (show ¬ ((q.length : Int) < (q.length : Int)) by omega), cond_false]
  refine hT q.length (Or.inr ⟨rfl, fun x hx he => ?_⟩)
  obtain ⟨i, hi, rfl⟩ := q_of_mem hx
  exact hno i hi he
 ·intro kk j _ _ hj hno
  have hun : yy26_l26 kf (kk + 1) v91 v92 (t : Int) v95 v96 v97 v98 v99 v100 v101 (fnd q) v103 v104 v105 v106 v107 Ke (j : Int) = bif (!(decide (((qs q j : Nat) : Int) = (t : Int)))) then yy26_l26 kf kk v91 v92 (t : Int) v95 v96 v97 v98 v99 v100 v101 (fnd q) v103 v104 v105 v106 v107 Ke ((j + 1 : Nat) : Int) else Ke v91 v92 (t : Int) (j : Int) v95 v96 v97 v98 v99 v100 v101 (fnd q) v103 v104 v105 v106 v107 := by
   rw [yy26_l26]
   unfold yy26_l26_b
   rw [fnd_len, decide_eq_true (show (j : Int) < (q.length : Int) by omega), cond_true, gdd (by omega), gd_true rfl, Int.toNat_natCast, fnd_getD hj, wi_1 j (by omega)]
  by_cases he : qs q j = t
  ·right
   rw [hun, decide_eq_true (show ((qs q j : Nat) : Int) = (t : Int) by omega), Bool.not_true, cond_false]
   exact hT j (Or.inl ⟨hj, he⟩)
  ·left
   refine ⟨(), fun i hi => ?_, ?_⟩
   ·by_cases hij : i = j
    ·subst hij; exact he
    ·exact hno i (by omega)
   ·rw [hun, decide_eq_false (show ¬ (((qs q j : Nat) : Int) = (t : Int)) by omega), Bool.not_false, cond_true]
theorem l22_ok (h : Mch C N E k m) {f : Nat → Nat} {l : List Int} (hl : PL k f l) {σ : Nat → List Nat} (hS : Stp (dq C N f id) (Gq C N f) (clx σ) k) (kf k0 : Nat) (hk0 : 3000 < k0) (i : Nat) (q : Q) (hb : Bg (dq C N f id) (Gq C N f) (clx σ) k i 0 q) (hi : i < q.length)
  (v80 v82 : List Int) (v86 : List (List Int)) (v87 : List Bool) (v88 : List (List Int)) (v89 : List Bool)
  (Ke : Int → List Int → List (List Int) → List Bool → List Int → List Int → List Int → List Int → List Int → List Int → List (List Int) → List Bool → List (List Int) → List Bool → Option R) (T : Option R)
  (hT : ∀ (q' : Q) (row : List Int), Bg (dq C N f id) (Gq C N f) (clx σ) k i 256 q' → Ext q q' → RowS (dq C N f id) (FL σ 256) q' i (nf σ 256) row → Ke (i : Int) C N E v80 l v82 (castF (FL σ 256)) (fnd q') row v86 v87 v88 v89 = T) :
  yy26_l22 kf k0 Ke (i : Int) 0 C N E v80 l v82 (castF (FL σ 256)) (fnd q) ([] : List Int) v86 v87 v88 v89 = T := by
 have hnf := nf_le σ 256
 have hN := h.nl; have hk2 := h.k2; have hl1 := hl.1
 refine loop_all (fun kk a (acc : Q × List Int) => yy26_l22 kf kk Ke (i : Int) (a : Int) C N E v80 l v82 (castF (FL σ 256)) (fnd acc.1) acc.2 v86 v87 v88 v89) T (nf σ 256) 2500
  (fun a acc => Bg (dq C N f id) (Gq C N f) (clx σ) k i (posn σ a) acc.1 ∧ Ext q acc.1 ∧ RowS (dq C N f id) (FL σ 256) acc.1 i a acc.2) ?_ ?_ (nf σ 256) k0 0 (q, []) (by omega) (by omega)
  ⟨by rw [posn_zero]; exact hb, Ext.refl q, rfl, fun c hc => by omega⟩
 ·rintro kk ⟨q', row⟩ ⟨h1, h2, h3⟩
  dsimp only at h1 h2 h3 ⊢
  rw [yy26_l22]
  unfold yy26_l22_b
  rw [castF_len, FL_len, decide_eq_false (show ¬ (((nf σ 256 : Nat) : Int) < ((nf σ 256 : Nat) : Int)) by omega), cond_false]
  have : posn σ (nf σ 256) = 256 := by unfold posn; rw [if_neg (by omega)]
  rw [this] at h1
  exact hT q' row h1 h2 h3
 ·rintro kk a ⟨q', row⟩ hB ha ⟨h1, h2, h3⟩ hrest
  dsimp only at h1 h2 h3 hrest ⊢
  obtain ⟨g1, g2, g3, g4⟩ := posn_spec ha
  have hgap := fun g (z1 : posn σ a + 1 ≤ g) (z2 : g < posn σ (a + 1)) (z3 : g < 256) => posn_gap ha z1 z2 z3
  have hple := posn_le ha
  generalize hg : posn σ a = g at g1 g2 g3 g4 h1 hgap hple
  have hi' : i < q'.length := by have := h2.len; omega
  have hsz := h1.size
  obtain ⟨s1, _, _, _⟩ := h1.lt _ (q_mem hi')
  dsimp only at s1
  generalize hs : qs q' i = s at s1
  obtain ⟨c1, c2⟩ := h.cls_lt g g2
  obtain ⟨hrow, hrs⟩ := h.row s s1
  obtain ⟨x1, x2⟩ := h.row_lt s1 c1
  have hdl : dl C N s g = ((N.getD s []).getD (C.getD g 0).toNat 0).toNat := rfl
  rw [← hdl] at x1 x2
  have hdq : dq C N f id (qs q' i) g = f (dl C N s g) := by rw [hs]; rfl
  generalize hcc : (C.getD g 0).toNat = cc at c1 c2 x2
  generalize hxx : dl C N s g = x at x1 x2 hdq
  have hcl : C.length = 256 := h.cl
  rw [yy26_l22]
  unfold yy26_l22_b
  dsimp only
  rw [castF_len, FL_len, decide_eq_true (show (a : Int) < ((nf σ 256 : Nat) : Int) by omega), cond_true, gdd (by omega), gdd (by rw [fnd_len]; omega), Int.toNat_natCast, fnd_getD hi', hs, gdd (by omega), gdd (by omega), gdd (by omega), gd_true rfl, Int.toNat_natCast, Int.toNat_natCast, castF_getD, ← g1, gdd (by omega), gdd (by omega), Int.toNat_natCast, c2,
   gdd (by omega), gdd (by omega), Int.toNat_natCast, x2, gdd (by omega), gdd (by omega), Int.toNat_natCast, hl.2 x x1]
  refine l26_ok kf kk q' (by omega) (by omega) (f x) _ _ _ _ _ _ _ _ _ _ _ _ _ _ _ T fun j hj => ?_
  have hskip : ∀ q2, Bg (dq C N f id) (Gq C N f) (clx σ) k i (g + 1) q2 → Bg (dq C N f id) (Gq C N f) (clx σ) k i (posn σ (a + 1)) q2 := fun q2 z => z.skip _ hple fun u u1 u2 u3 u4 => by
   have := hgap u u1 u2 u3
   rw [clx_rep.1 u4] at this
   cases this
  have hrl := h3.1
  rw [wi_1 a (by omega), fnd_len]
  rcases hj with ⟨j1, j2⟩ | ⟨j1, j2⟩
  ·rw [decide_eq_false (show ¬ ((j : Int) = (q'.length : Int)) by omega), cond_false, gdd (by rw [hrl, small_eq]; simp; omega)]
   exact hrest (q', row ++ [(j : Int)]) ⟨hskip _ (h1.old hS hi' g2 (clx_rep.2 g3) ⟨_, q_mem j1, by rw [hdq]; exact j2⟩), h2, h3.snoc j1 (by rw [j2, ← g1, hdq])⟩
  ·subst j1
   have hnew := h1.new hS hi' g2 (clx_rep.2 g3) (by rw [hdq]; exact j2)
   rw [hdq] at hnew
   rw [decide_eq_true rfl, cond_true, gdd (by rw [small_eq]; simp; omega), gdd (by rw [hrl, small_eq]; simp; omega)]
   have hsn := fnd_snoc q' (f x, qw q' i ++ [g])
   dsimp only at hsn
   rw [hsn]
   exact hrest (q' ++ [(f x, qw q' i ++ [g])], row ++ [(q'.length : Int)]) ⟨hskip _ hnew, h2.snoc _, (h3.grow ((Ext.refl q').snoc _) hi').snoc (by rw [List.length_append]; simp) (by rw [qs_new, qs_old hi', ← g1, hdq])⟩
theorem l18_ok (h : Mch C N E k m) {f : Nat → Nat} {l : List Int} (hl : PL k f l) (hf0 : f 0 = 0) {σ : Nat → List Nat} (hS : Stp (dq C N f id) (Gq C N f) (clx σ) k) (kf : Nat) (hkf : 20000 ≤ kf) (v66 v68 : List Int) (v71 : List (List Int)) (v72 : List Bool)
  (Ke : List Int → List Int → List (List Int) → List Bool → List (List Int) → List Bool → Option R) (T : Option R)
  (hT : ∀ (q : Q) (N' : List (List Int)) (E' : List Bool), Bg (dq C N f id) (Gq C N f) (clx σ) k q.length 0 q → N'.length = q.length → (∀ c, c < q.length → RowS (dq C N f id) (FL σ 256) q c (nf σ 256) (N'.getD c [])) → E'.length = q.length → (∀ c, c < q.length → E'.getD c false = E.getD (qs q c) false) → Ke v66 v68 v71 v72 N' E' = T) :
  yy26_l18 kf kf Ke 0 C N E v66 l v68 (castF (FL σ 256)) ([(0 : Int)] : List Int) v71 v72 ([] : List (List Int)) ([] : List Bool) = T := by
 have hk2 := h.k2; have hE := h.el
 refine loop_meas (fun kk (acc : Nat × Q × List (List Int) × List Bool) => yy26_l18 kf kk Ke (acc.1 : Int) C N E v66 l v68 (castF (FL σ 256)) (fnd acc.2.1) v71 v72 acc.2.2.1 acc.2.2.2) T (fun acc => k + 1 - acc.1) 4000
  (fun acc => Bg (dq C N f id) (Gq C N f) (clx σ) k acc.1 0 acc.2.1 ∧ acc.2.2.1.length = acc.1 ∧ (∀ c, c < acc.1 → RowS (dq C N f id) (FL σ 256) acc.2.1 c (nf σ 256) (acc.2.2.1.getD c [])) ∧ acc.2.2.2.length = acc.1 ∧ (∀ c, c < acc.1 → acc.2.2.2.getD c false = E.getD (qs acc.2.1 c) false)) ?_ kf (0, [(0, [])], [], []) (by simp only; omega)
  ⟨Bg.start hS, rfl, fun c hc => by simp only at hc; omega, rfl, fun c hc => by simp only at hc; omega⟩
 rintro kk ⟨i, q, N', E'⟩ hB ⟨h1, h2, h3, h4, h5⟩ hrest
 dsimp only at h1 h2 h3 h4 h5 hrest ⊢
 have hsz := h1.size
 have hple := h1.ple
 rw [yy26_l18]
 unfold yy26_l18_b
 by_cases hi : i < q.length
 rotate_left
 ·have : i = q.length := by omega
  subst this
  rw [fnd_len, decide_eq_false (show ¬ ((q.length : Int) < (q.length : Int)) by omega), cond_false]
  exact hT q N' E' h1 h2 h3 h4 h5
 rw [fnd_len, decide_eq_true (show (i : Int) < (q.length : Int) by omega), cond_true]
 refine l22_ok h hl hS kf kk (by omega) i q h1 hi _ _ _ _ _ _ _ T fun q' row r1 r2 r3 => ?_
 have hlen := r2.len
 have hi' : i < q'.length := by omega
 have hsz' := r1.size
 obtain ⟨s1, _, _, _⟩ := r1.lt _ (q_mem hi')
 dsimp only at s1
 rw [gdd (by rw [h2, small_eq]; simp; omega), gdd (by omega), gdd (by rw [fnd_len]; omega), Int.toNat_natCast, fnd_getD hi', gdd (by omega), gdd (by omega), Int.toNat_natCast, gdd (by rw [h4, small_eq]; simp; omega), wi_1 i (by omega)]
 refine hrest (i + 1, q', N' ++ [row], E' ++ [E.getD (qs q' i) false]) ⟨r1.next hi', by simp only; rw [List.length_append, h2]; rfl, fun c hc => ?_, by simp only; rw [List.length_append, h4]; rfl, fun c hc => ?_⟩ (by simp only; omega)
 ·dsimp only at hc ⊢
  rw [snoc_getD, h2]
  by_cases hci : c < i
  ·rw [if_pos hci]
   exact (h3 c hci).grow r2 (by omega)
  ·have : c = i := by omega
   subst this
   rw [if_neg hci, if_pos rfl]
   exact r3
 ·dsimp only at hc ⊢
  rw [snoc_getD, h4]
  by_cases hci : c < i
  ·rw [if_pos hci, h5 c hci, r2.qs (by omega)]
  ·have : c = i := by omega
   subst this
   rw [if_neg hci, if_pos rfl]
end
end Go.Ab.T

/- The reference's least machine is the language's own form; the law LeastMade. -/
namespace Go.Ab.T
open Go Go.Ab
set_option linter.unusedVariables false
set_option linter.unusedSimpArgs false
set_option linter.unusedSectionVars false
section
variable {R : Type} {C : List Int} {N : List (List Int)} {E : List Bool} {k m : Nat}
def Low (C : List Int) (N : List (List Int)) (E : List Bool) (k : Nat) (f : Nat → Nat) : Prop := ∀ s, s < k → f s ≤ s ∧ eqs C N E (f s) s ∧ ∀ t, t < k → eqs C N E t s → f s ≤ t
theorem gapless_ix {α : Type} [DecidableEq α] {σ : Nat → α} {C : List Int} (h : ∀ b, b < 256 → C.getD b 0 = ((ix σ b : Nat) : Int)) : gapless C := by
 refine gapless_of (m := nf σ 256) (fun b hb => ⟨_, ix_lt hb, h b hb⟩) fun a ha => ?_
 rw [← FL_len] at ha
 obtain ⟨f1, f2⟩ := FL_mem ha
 refine ⟨_, f1, ?_⟩
 rw [h _ f1, ix_fst f2, FL_idx 256 a ha]
theorem Low.unique {f g : Nat → Nat} (hf : Low C N E k f) (hg : Low C N E k g) {s : Nat} (hs : s < k) : f s = g s := by
 obtain ⟨a1, a2, a3⟩ := hf s hs
 obtain ⟨b1, b2, b3⟩ := hg s hs
 have c1 := a3 (g s) (by omega) b2
 have c2 := b3 (f s) (by omega) a2
 omega
theorem J_exc {p r : Nat → Nat} {cl : Nat → Int} {q : Q} (hq : Bg (dq C N p r) (Gq C N p) cl k q.length 0 q) : ∃ J, JOk C N p r q J := by
 have : ∀ x : Nat × Nat, ∃ j, x.1 < q.length → x.2 < 256 → j < q.length ∧ qs q j = dq C N p r (qs q x.1) x.2 := by
  rintro ⟨i, b⟩
  by_cases hi : i < q.length
  ·by_cases hb : b < 256
   ·obtain ⟨x, hx, h1, _⟩ := hq.done i hi b hb
    obtain ⟨j, hj, rfl⟩ := q_of_mem hx
    exact ⟨j, fun _ _ => ⟨hj, h1⟩⟩
   ·exact ⟨0, fun _ h => absurd h hb⟩
  ·exact ⟨0, fun h => absurd h hi⟩
 obtain ⟨f, hf⟩ := Classical.axiomOfChoice this
 exact ⟨fun i b => f (i, b), fun i b hi hb => hf (i, b) hi hb⟩
theorem rleast_w (h : Mch C N E k m) (kf : Nat) (hkf : 20000 ≤ kf) (K : List Int → List (List Int) → List Bool → Option R) (T : Option R)
  (hT : ∀ (C' : List Int) (N' : List (List Int)) (E' : List Bool), C'.length = 256 → gapless C' → (gapless C → ∃ n' m', Canon C' N' E' n' m' ∧ Lang C N E C' N' E') → K C' N' E' = T) : yy26 kf C N E K = T := by
 unfold yy26 yy26_b
 have hk1 := h.k1
 rw [rmay_ok h kf (by omega), Bool.not_true, cond_false]
 refine rparts_ok h kf hkf _ T fun f l hl hprt hidem => ?_
 have hp : Pts C N E k f id := ⟨hprt, fun s hs => ⟨hprt.lt s hs, (hidem s hs).2⟩⟩
 refine rreach_ok h kf hkf _ T fun t ht htr => ?_
 refine l8r_ok h kf (by omega) f l hl t ht _ _ _ _ _ _ T fun C' hC1 hC2 => ?_
 have hl0 : l.getD 0 0 = 0 := by rw [hl.2 0 hk1, hp.zero]; rfl
 rw [gdd (by rw [hl.1]; omega), hl0]
 have hcol : ∀ b b', b < 256 → b' < 256 → tau C N f t k b = tau C N f t k b' → ∀ s, s < k → rch C N s → f (dl C N s b) = f (dl C N s b') := by
  intro b b' hb hb' he s hs hr
  exact col_iff.1 he s hs ((htr s hs).2 hr)
 generalize hσ : tau C N f t k = σ at hC2 hcol
 have hS : Stp (dq C N f id) (Gq C N f) (clx σ) k := stp_q h hp (clx σ) fun P b g hG hg hb hc => by
  obtain ⟨v, hv, rfl⟩ := hG
  have hlt := h.dls_lt h.k1 hv
  rw [dq_p h hp hlt hg, dq_p h hp hlt hb]
  exact hcol g b hg hb (clx_iff.1 hc) _ hlt (rch_by h hv)
 refine l18_ok h hl hp.zero hS kf hkf _ _ _ _ _ T fun q N' E' hq hN' hrow hE' hends => ?_
 refine hT C' N' E' hC1 (gapless_ix hC2) fun hgap => ?_
 obtain ⟨J, hJ⟩ := J_exc hq
 have hker : Ker σ (wayN q J) 256 := by
  intro b b' hb hb'
  rw [wayN_eq]
  constructor
  ·intro he i hi
   refine hq.inj_iff (hJ i b hi hb).1 (hJ i b' hi hb').1 ?_
   rw [(hJ i b hi hb).2, (hJ i b' hi hb').2]
   obtain ⟨s1, s2, _, _⟩ := hq.lt _ (q_mem hi)
   exact hS.cl _ _ _ s1 s2 hb hb' (clx_iff.2 he)
  ·intro he
   rw [← hσ]
   refine col_iff.2 fun s hs hts => ?_
   obtain ⟨v, hv, rfl⟩ := rch_of h hgap ((htr s hs).1 hts)
   obtain ⟨i, hi, hqi, _⟩ := hq.all v.length v rfl hv
   have hrun := run_p h hp v 0 h.k1 hv
   rw [hp.zero] at hrun
   rw [hrun] at hqi
   have e1 := (hJ i b hi hb).2
   have e2 := (hJ i b' hi hb').2
   rw [hqi, dq_p h hp hs hb] at e1
   rw [hqi, dq_p h hp hs hb'] at e2
   show f (dl C N (dls C N 0 v) b) = f (dl C N (dls C N 0 v) b')
   rw [← e1, ← e2, he i hi]
 have hlaid := laid_of h hp hq hJ (C' := C') (N' := N') (E' := E') ⟨hC1, fun b hb => by rw [hC2 b hb, hker.ix hb]⟩ hN' (fun i hi => by
  obtain ⟨r1, r2⟩ := hrow i hi
  refine ⟨by rw [r1, hker.nf 256 (Nat.le_refl _)], fun g hg hfst => ?_⟩
  have hfσ : fstO σ g = true := by rw [hker.fst hg]; exact hfst
  have hlt := nf_lt (c := 256) hfσ hg
  obtain ⟨j, j1, j2, j3⟩ := r2 _ hlt
  rw [FL_getD σ 256 g hg hfσ] at j3
  rw [← hker.nf g (by omega), j2]
  have : j = J i g := hq.inj_iff j1 (hJ i g hi hg).1 (by rw [j3, (hJ i g hi hg).2])
  rw [this]) hE' hends
 obtain ⟨_, _, z1, z2⟩ := laid_canon h hp hq hlaid
 exact ⟨_, _, z1 hgap, z2⟩
theorem rleast_ok (h : Mch C N E k m) (hg : gapless C) (kf : Nat) (hkf : 20000 ≤ kf) (K : List Int → List (List Int) → List Bool → Option R) (T : Option R)
  (hT : ∀ (C' : List Int) (N' : List (List Int)) (E' : List Bool) (n' m' : Nat), Canon C' N' E' n' m' → Lang C N E C' N' E' → K C' N' E' = T) : yy26 kf C N E K = T :=
 rleast_w h kf hkf K T fun C' N' E' _ _ hc => by
  obtain ⟨n', m', h1, h2⟩ := hc hg
  exact hT C' N' E' n' m' h1 h2
end
end Go.Ab.T

/- Images: the laws ImageOnly, ImageTurned. -/
namespace Go.Ab.T
open Go Go.Ab
set_option linter.unusedVariables false
set_option linter.unusedSimpArgs false
section
variable {R : Type} {C : List Int} {N : List (List Int)} {E : List Bool} {k m : Nat}
theorem rsame_ne (kf : Nat) {C C' : List Int} (h : C ≠ C') (N N' : List (List Int)) (E E' : List Bool) (K : Bool → Option R) : yy30 kf C N E C' N' E' K = K false := by
 unfold yy30 yy30_b
 dsimp only
 rw [decide_eq_false h]
 rfl
theorem ris_canon {n : Nat} (hc : Canon C N E n m) (kf : Nat) (hkf : 20000 ≤ kf) (K : Bool → Option R) : yy25 kf C N E K = K true := by
 unfold yy25 yy25_b
 rw [rmay_ok hc.mch kf (by omega), cond_true]
 refine rleast_ok hc.mch hc.gap kf hkf _ _ fun C' N' E' n' m' hc' hL => ?_
 rw [rsame_ok hc'.mch kf (by omega)]
 obtain ⟨h1, h2, h3⟩ := hc'.unique hc hL.symm
 rw [decide_eq_true ⟨h1, h3, h2⟩]
theorem ris_not (h : Mch C N E k m) (hn : ¬ ∃ n' m', Canon C N E n' m') (kf : Nat) (hkf : 20000 ≤ kf) (K : Bool → Option R) : yy25 kf C N E K = K false := by
 unfold yy25 yy25_b
 rw [rmay_ok h kf (by omega), cond_true]
 refine rleast_w h kf hkf _ _ fun C' N' E' hl hg hc => ?_
 by_cases hgap : gapless C
 ·obtain ⟨n', m', h1, h2⟩ := hc hgap
  rw [rsame_ok h1.mch kf (by omega), decide_eq_false]
  rintro ⟨e1, e2, e3⟩
  subst e1 e2 e3
  exact hn ⟨_, _, h1⟩
 ·rw [rsame_ne kf fun e => hgap (by rw [← e]; exact hg)]
end
end Go.Ab.T

/- Images: the law ImageWrites. -/
namespace Go.Ab.T
open Go Go.Ab
set_option linter.unusedVariables false
set_option linter.unusedSimpArgs false
section
variable {R : Type} {C : List Int} {N : List (List Int)} {E : List Bool} {k m : Nat}
theorem rclasses_gen (h : isC C) (kf : Nat) (hkf : 3000 ≤ kf) (K : Int → Option R) : yy24 kf C N E K = K (mxTo C 255 + 1) := by
 unfold yy24 yy24_b
 refine loop_inv (fun kk c acc => yy24_l3 kf kk C (fun v10 => K v10) acc (c : Int)) _ 256 0 (fun c acc => acc = if c = 0 then 0 else mxTo C (c - 1) + 1) ?_ ?_ 256 kf 0 0 (by omega) (by omega) rfl
 ·rintro kk acc rfl
  have hd : decide (((256 : Nat) : Int) < 256) = false := rfl
  simp only [yy24_l3, yy24_l3_b, hd, cond_false]
  rfl
 ·rintro kk c acc _ hc rfl
  left
  have hd : decide ((c : Int) < 256) = true := decide_eq_true (by omega)
  have g1 : decide (0 ≤ (c : Int)) = true := decide_eq_true (by omega)
  have h1 := h.2 c hc
  have ha2 : C.getD c 0 = (((C.getD c 0).toNat : Nat) : Int) := by omega
  generalize (C.getD c 0).toNat = a at *
  refine ⟨_, rfl, ?_⟩
  simp only [yy24_l3, yy24_l3_b, hd, g1, gd, cond_true, Int.toNat_natCast, wi_1 c (show c < 4000000000000000000 by omega), ha2, wi_n a (show a < 4000000000000000000 by omega), wi_1 a (show a < 4000000000000000000 by omega)]
  have e : mx (if c = 0 then 0 else mxTo C (c - 1) + 1) ((a + 1 : Nat) : Int) = if c + 1 = 0 then 0 else mxTo C (c + 1 - 1) + 1 := by
   rw [if_neg (show ¬ (c + 1 = 0) by omega)]
   simp only [Nat.add_sub_cancel]
   cases c with
   | zero =>
    simp only [if_true, mxTo, mx]
    rw [ha2]
    split <;> omega
   | succ d =>
    rw [if_neg (by omega)]
    simp only [Nat.add_sub_cancel, mxTo, mx]
    rw [ha2]
    split <;> split <;> omega
  rw [e]
theorem rmay_not (hC : isC C) (hno : ¬ ∃ k m, Mch C N E k m) (hr : ∀ s, s < N.length → (N.getD s []).length ≤ 2000) (kf : Nat) (hkf : 6000 ≤ kf) (K : Bool → Option R) : yy27 kf C N E K = K false := by
 unfold yy27 yy27_b
 rw [rclasses_gen hC kf (by omega)]
 dsimp only
 by_cases h1 : (N.length : Int) < 1
 ·rw [decide_eq_true h1]; rfl
 by_cases h2 : (2000 : Int) < (N.length : Int)
 ·rw [decide_eq_false h1, decide_eq_true h2]; rfl
 by_cases h3 : (E.length : Int) = (N.length : Int)
 rotate_left
 ·rw [decide_eq_false h1, decide_eq_false h2, decide_eq_false h3]; rfl
 obtain ⟨m1, m2, m3, b, m4, m5⟩ := mxTo_spec hC 255 (by omega)
 obtain ⟨m, hm⟩ := Int.eq_ofNat_of_zero_le m1
 have hall : ¬ ∀ s, s < N.length → (N.getD s []).length = m + 1 ∧ inR N.length (N.getD s []) = true := by
  intro hall
  refine hno ⟨N.length, m + 1, hC.1, fun b hb => ?_, ⟨b, by omega, by rw [m5, hm]; rfl⟩, rfl, by omega, by omega, by omega, by omega, by omega, fun s hs => ?_⟩
  ·obtain ⟨a, ha⟩ := Int.eq_ofNat_of_zero_le (hC.2 b hb).1
   have := m3 b (by omega)
   exact ⟨a, by omega, ha⟩
  ·obtain ⟨a1, a2⟩ := hall s hs
   exact ⟨a1, fun a ha => inR_iff.1 a2 a (by omega)⟩
 rw [decide_eq_false h1, decide_eq_false h2, decide_eq_true h3]
 simp only [cond_false, Bool.not_true]
 rw [hm]
 refine loop_inv (fun kk c (_ : Unit) => yy27_l5 kf kk (fun (v34 : Bool) => K v34) (K true) (N.length : Int) ((m : Int) + 1) (c : Int) C N E) _ N.length 3000 (fun c _ => ∀ s, s < c → (N.getD s []).length = m + 1 ∧ inR N.length (N.getD s []) = true) ?_ ?_ N.length kf 0 () (by omega) (by omega) (fun s hs => absurd hs (by omega))
 ·intro kk _ h; exact absurd h hall
 ·intro kk c _ hB hc h
  have hd : decide ((c : Int) < (N.length : Int)) = true := decide_eq_true (by omega)
  have g1 : decide (0 ≤ (c : Int)) = true := decide_eq_true (by omega)
  have hrc := hr c hc
  by_cases hlen : (N.getD c []).length = m + 1
  rotate_left
  ·right
   have hl : decide (((N.getD c []).length : Int) = (m : Int) + 1) = false := decide_eq_false (by omega)
   simp only [yy27_l5, yy27_l5_b, hd, g1, gd, cond_true, Int.toNat_natCast, hl, Bool.not_false]
  have hl : decide (((N.getD c []).length : Int) = (m : Int) + 1) = true := decide_eq_true (by omega)
  have hlN : ((m : Int) + 1) = ((m + 1 : Nat) : Int) := by omega
  cases hin : inR N.length (N.getD c []) with
  | true =>
   left
   refine ⟨(), fun s hs => ?_, ?_⟩
   ·by_cases hsc : s = c
    ·subst hsc; exact ⟨hlen, hin⟩
    ·exact h s (by omega)
   ·have h2 := inR_iff.1 hin
    simp only [yy27_l5, yy27_l5_b, hd, g1, gd, cond_true, Int.toNat_natCast, hl, Bool.not_true, cond_false]
    rw [hlN]
    refine loop_inv (fun kk2 a (_ : Unit) => yy27_l10 kf kk2 (N.length : Int) ((m + 1 : Nat) : Int) (c : Int) C N E (fun (v21 : Bool) (v22 : Int) (v23 : Int) (v24 : Int) (v25 : (List Int)) (v26 : (List (List Int))) (v27 : (List Bool)) => K v21)
     (fun (v28 : Int) (v29 : Int) (v30 : Int) (v31 : (List Int)) (v32 : (List (List Int))) (v33 : (List Bool)) => yy27_l5 kf kk (fun (v34 : Bool) => K v34) (K true) v28 v29 (IntKind.i64.wrap (v30 + 1)) v31 v32 v33) (a : Int)) _ (m + 1) 0 (fun _ _ => True) ?_ ?_ (m + 1) kk 0 () (by omega) (by omega) trivial
    ·intro kk2 _ _
     have hd : decide (((m + 1 : Nat) : Int) < ((m + 1 : Nat) : Int)) = false := decide_eq_false (by omega)
     simp only [yy27_l10, yy27_l10_b, hd, cond_false, wi_1 c (show c < 4000000000000000000 by omega)]
    ·intro kk2 a _ _ ha _
     left
     refine ⟨(), trivial, ?_⟩
     obtain ⟨t, ht1, ht2⟩ := h2 a (by omega)
     have hda : decide ((a : Int) < ((m + 1 : Nat) : Int)) = true := decide_eq_true (by omega)
     have ga : decide (0 ≤ (a : Int)) = true := decide_eq_true (by omega)
     have gb : decide ((a : Int) < ((N.getD c []).length : Int)) = true := decide_eq_true (by omega)
     have g2 : decide ((t : Int) < 0) = false := decide_eq_false (by omega)
     have g3 : decide ((N.length : Int) ≤ (t : Int)) = false := decide_eq_false (by omega)
     simp only [yy27_l10, yy27_l10_b, hda, hd, g1, ga, gb, gd, cond_true, cond_false, Int.toNat_natCast, ht2, g2, g3, wi_1 a (show a < 4000000000000000000 by omega)]
  | false =>
   right
   simp only [yy27_l5, yy27_l5_b, hd, g1, gd, cond_true, Int.toNat_natCast, hl, Bool.not_true, cond_false]
   rw [hlN]
   refine loop_inv (fun kk2 a (_ : Unit) => yy27_l10 kf kk2 (N.length : Int) ((m + 1 : Nat) : Int) (c : Int) C N E (fun (v21 : Bool) (v22 : Int) (v23 : Int) (v24 : Int) (v25 : (List Int)) (v26 : (List (List Int))) (v27 : (List Bool)) => K v21)
     (fun (v28 : Int) (v29 : Int) (v30 : Int) (v31 : (List Int)) (v32 : (List (List Int))) (v33 : (List Bool)) => yy27_l5 kf kk (fun (v34 : Bool) => K v34) (K true) v28 v29 (IntKind.i64.wrap (v30 + 1)) v31 v32 v33) (a : Int)) _ (m + 1) 0 (fun a _ => ∀ x, x < a → ∃ t : Nat, t < N.length ∧ (N.getD c []).getD x 0 = (t : Int)) ?_ ?_ (m + 1) kk 0 () (by omega) (by omega) (fun x hx => absurd hx (by omega))
   ·intro kk2 _ hx
    have : inR N.length (N.getD c []) = true := inR_iff.2 fun a ha => hx a (by omega)
    rw [hin] at this; cases this
   ·intro kk2 a _ _ ha hx
    have hda : decide ((a : Int) < ((m + 1 : Nat) : Int)) = true := decide_eq_true (by omega)
    have ga : decide (0 ≤ (a : Int)) = true := decide_eq_true (by omega)
    have gb : decide ((a : Int) < ((N.getD c []).length : Int)) = true := decide_eq_true (by omega)
    by_cases q1 : (N.getD c []).getD a 0 < 0
    ·right
     simp only [yy27_l10, yy27_l10_b, hda, hd, g1, ga, gb, gd, cond_true, cond_false, Int.toNat_natCast, decide_eq_true q1]
    by_cases q2 : (N.length : Int) ≤ (N.getD c []).getD a 0
    ·right
     simp only [yy27_l10, yy27_l10_b, hda, hd, g1, ga, gb, gd, cond_true, cond_false, Int.toNat_natCast, decide_eq_false q1, decide_eq_true q2]
    ·left
     obtain ⟨t, ht⟩ := Int.eq_ofNat_of_zero_le (show 0 ≤ (N.getD c []).getD a 0 by omega)
     refine ⟨(), fun x hxa => ?_, ?_⟩
     ·by_cases hxe : x = a
      ·subst hxe; exact ⟨t, by omega, ht⟩
      ·exact hx x (by omega)
     ·simp only [yy27_l10, yy27_l10_b, hda, hd, g1, ga, gb, gd, cond_true, cond_false, Int.toNat_natCast, decide_eq_false q1, decide_eq_false q2, wi_1 a (show a < 4000000000000000000 by omega)]
end
end Go.Ab.T

/- A twin and what is kept of it: the printed functions. -/
namespace Go.Ab.T
open Go Go.Ab
set_option linter.unusedVariables false
set_option linter.unusedSimpArgs false
set_option maxRecDepth 20000
theorem w3 (n : Nat) (h : n < 4000000000000000000) : IntKind.i64.wrap ((n : Int) + 3) = ((n + 3 : Nat) : Int) := by rw [IntKind.wrap_i64]; omega
theorem w1 (n : Nat) (h : n < 4000000000000000000) : IntKind.i64.wrap ((n : Int) + 1) = ((n + 1 : Nat) : Int) := by rw [IntKind.wrap_i64]; omega
def spare : List Int := [229, 229, 229]
theorem gd_t0 {R : Type} {b : Bool} (h : b = true) (x : Option R) : gd b x = x := by subst h; rfl
theorem twin_l4 {R : Type} (kf : Nat) (b : List Int) (hb : b.length ≤ 1000000) (Ke : List Int → Int → List Int → Option R) : ∀ (m k i : Nat) (v : List Int), i + m = 3 → m < k → v.length = b.length + 3 →
  yy8_l4 kf k b ((b.length + 3 : Nat) : Int) Ke ((b.length + i : Nat) : Int) v = Ke b ((b.length + 3 : Nat) : Int) (v.take (b.length + i) ++ List.replicate m 229)
 | m, 0, i, v, _, h, _ => by omega
 | 0, k + 1, i, v, hi, _, hv => by
  have : i = 3 := by omega
  subst this
  rw [yy8_l4]
  unfold yy8_l4_b
  rw [decide_eq_false (by omega), cond_false, List.take_of_length_le (by omega)]
  simp
 | m + 1, k + 1, i, v, hi, hk, hv => by
  rw [yy8_l4]
  unfold yy8_l4_b
  rw [decide_eq_true (by omega : ((b.length + i : Nat) : Int) < ((b.length + 3 : Nat) : Int)), cond_true, gd_t0 (decide_eq_true (by omega)), gd_t0 rfl, w1 _ (by omega)]
  rw [show b.length + i + 1 = b.length + (i + 1) by omega]
  rw [twin_l4 kf b hb Ke m k (i + 1) _ (by omega) (by omega) (by rw [List.length_set]; exact hv)]
  congr 1
  rw [show Int.toNat ((b.length + i : Nat) : Int) = b.length + i from rfl, show b.length + (i + 1) = (b.length + i) + 1 by omega]
  rw [List.take_succ_eq_append_getElem (by rw [List.length_set]; omega), List.take_set_of_le (Nat.le_refl _), List.getElem_set_self, List.append_assoc]
  rfl
theorem twin_ok {R : Type} (kf : Nat) (hkf : 10 ≤ kf) (b : List Int) (hb : b.length ≤ 1000000) (K : Int → List Int → Option R) : yy8 kf b K = K (b.length : Int) (b ++ spare) := by
 have hr : ∀ n : Nat, Int.toNat ((n : Nat) : Int) = n := fun n => rfl
 unfold yy8 yy8_b
 rw [w3 _ (by omega), gd_t0 (decide_eq_true (by omega)), gd_t0 (decide_eq_true rfl), gd_t0 (decide_eq_true (by have : SMALL = 17179869184 := rfl; omega))]
 rw [hr, List.length_replicate]
 try dsimp only
 rw [gd_t0 (decide_eq_true rfl)]
 have h := twin_l4 kf b hb (fun v7 v8 v9 => gd (decide (0 ≤ (v7.length : Int))) (gd (decide ((v7.length : Int) ≤ (v9.length : Int))) (K (v7.length : Int) v9))) 3 kf 0 (b.take (b.length + 3) ++ (List.replicate (b.length + 3) (0 : Int)).drop b.length) (by omega) (by omega) (by simp)
 refine h.trans ?_
 have e : (b.take (b.length + 3) ++ (List.replicate (b.length + 3) (0 : Int)).drop b.length).take (b.length + 0) = b := by
  rw [List.take_of_length_le (by omega : b.length ≤ b.length + 3), Nat.add_zero, List.take_left]
 rw [e]
 rw [gd_t0 (decide_eq_true (by omega)), gd_t0 (decide_eq_true (by rw [List.length_append]; omega))]
 rfl
theorem kept_l5 {R : Type} (kf : Nat) (b : List Int) (hb : b.length ≤ 1000000) (Kr : Bool → List Int → Option R) (Ke : List Int → Option R) : ∀ (m k i : Nat), i + m = 3 → m < k →
  yy7_l5 kf k b ((b.length + 3 : Nat) : Int) (b ++ spare) Kr Ke ((b.length + i : Nat) : Int) = Ke (b ++ spare)
 | m, 0, i, _, h => by omega
 | 0, k + 1, i, hi, _ => by
  rw [yy7_l5]
  unfold yy7_l5_b
  rw [w3 _ (by omega), decide_eq_false (by omega), cond_false]
 | m + 1, k + 1, i, hi, hk => by
  rw [yy7_l5]
  unfold yy7_l5_b
  have hg : (b ++ spare).getD (b.length + i) 0 = 229 := by
   rw [List.getD_eq_getElem?_getD, List.getElem?_append_right (by omega), Nat.add_sub_cancel_left]
   match i, (by omega : i < 3) with
   | 0, _ => rfl
   | 1, _ => rfl
   | 2, _ => rfl
  rw [w3 _ (by omega), decide_eq_true (by omega : ((b.length + i : Nat) : Int) < ((b.length + 3 : Nat) : Int)), cond_true, gd_t0 (decide_eq_true (by omega)), gd_t0 rfl]
  rw [show Int.toNat ((b.length + i : Nat) : Int) = b.length + i from rfl, hg]
  rw [show (!decide ((229 : Int) = 229)) = false from rfl, cond_false, w1 _ (by omega), show b.length + i + 1 = b.length + (i + 1) by omega]
  exact kept_l5 kf b hb Kr Ke m k (i + 1) (by omega) (by omega)
theorem kept_ok {R : Type} (kf : Nat) (hkf : 10 ≤ kf) (b : List Int) (hb : b.length ≤ 1000000) (K : Bool → List Int → Option R) : yy7 kf (b.length : Int) b (b ++ spare) K = K true (b ++ spare) := by
 have hl : (b ++ spare).length = b.length + 3 := by rw [List.length_append]; rfl
 unfold yy7 yy7_b
 try dsimp only
 rw [hl, gd_t0 (decide_eq_true (by omega)), gd_t0 (decide_eq_true (Int.le_refl _)), show Int.toNat (b.length : Int) = b.length from rfl, List.take_left, decide_eq_true rfl, w3 _ (by omega), decide_eq_false (Int.lt_irrefl _)]
 simp only [Bool.not_true, cond_false]
 exact kept_l5 kf b hb K (fun v => K true v) 3 kf 0 (by omega) (by omega)
end Go.Ab.T

/- Images: what the reference's Take answers. -/
namespace Go.Ab.T
open Go Go.Ab
set_option linter.unusedVariables false
set_option linter.unusedSimpArgs false
set_option maxRecDepth 20000
theorem wbr (x : Int) (h : 0 ≤ x ∧ x ≤ 255) : IntKind.i64.wrap x = x := by rw [IntKind.wrap_i64]; omega
theorem drop_nil {b : List Int} {a : Nat} (h : b.drop a = []) : b.length ≤ a := by
 have := congrArg List.length h
 rw [List.length_drop] at this
 simp at this
 omega
theorem drop_at {b : List Int} {a : Nat} {x : Int} {r : List Int} (h : b.drop a = x :: r) : a < b.length ∧ b.getD a 0 = x ∧ b.drop (a + 1) = r := by
 have hl : a < b.length := by
  have := congrArg List.length h
  rw [List.length_drop] at this
  simp at this
  omega
 rw [List.drop_eq_getElem_cons hl] at h
 obtain ⟨h1, h2⟩ := List.cons.inj h
 refine ⟨hl, ?_, h2⟩
 rw [List.getD_eq_getElem?_getD, List.getElem?_eq_getElem hl]
 exact h1
theorem rt23 {R : Type} (kf : Nat) (b : List Int) (a : Nat) (hl : b.length ≤ 6000) (ha : a + 1 < b.length) (x : Nat) (hx : b.getD a 0 = (x : Int)) (hx2 : x ≤ 255) (s c n i v26 : Int) (v28 : List (List Int)) (v29 : List Bool) (v30 : List (List Int)) (v31 : List Bool) (v25' : List Int)
  (Ke : List Int → Int → Int → Int → Int → Int → List Int → List Int → List (List Int) → List Bool → List (List Int) → List Bool → Option R) :
  ∀ (m k j : Nat) (C : List Int), j + m = x + 1 → m < k →
  yy31_l23 kf k b s c n (a : Int) i v25' v28 v29 v30 v31 Ke (j : Int) C = Ke b s c n (a : Int) i v25' (fill (b.getD (a + 1) 0) m j C) v28 v29 v30 v31
 | m, 0, j, C, _, h => by omega
 | 0, k + 1, j, C, hj, _ => by
  have g0 : decide ((0 : Int) ≤ (a : Int)) = true := decide_eq_true (by omega)
  have g1 : decide ((a : Int) < (b.length : Int)) = true := decide_eq_true (by omega)
  have g2 : decide ((j : Int) ≤ (x : Int)) = false := decide_eq_false (by omega)
  unfold yy31_l23 yy31_l23_b
  rw [g0, g1, gd_true rfl, gd_true rfl, show Int.toNat (a : Int) = a from rfl, hx, wbr _ (by omega), g2, cond_false]
  rfl
 | m + 1, k + 1, j, C, hj, hk => by
  have g0 : decide ((0 : Int) ≤ (a : Int)) = true := decide_eq_true (by omega)
  have g1 : decide ((a : Int) < (b.length : Int)) = true := decide_eq_true (by omega)
  have g2 : decide ((j : Int) ≤ (x : Int)) = true := decide_eq_true (by omega)
  unfold yy31_l23 yy31_l23_b fill
  rw [g0, g1, gd_true rfl, gd_true rfl, show Int.toNat (a : Int) = a from rfl, hx, wbr _ (by omega), g2, cond_true, wi1j a (by omega), gd_true (decide_eq_true (by omega)), gd_true (decide_eq_true (by omega)), gd_true (decide_eq_true (by omega)), gd_true (decide_eq_true (by omega)),
   wi1j j (by omega), show Int.toNat (j : Int) = j from rfl, show Int.toNat ((a + 1 : Nat) : Int) = a + 1 from rfl]
  exact rt23 kf b a hl ha x hx hx2 s c n i v26 v28 v29 v30 v31 v25' Ke m k (j + 1) _ (by omega) (by omega)
theorem rt12 {R : Type} (kf : Nat) (hkf : 300 < kf) (b : List Int) (hb : isB b) (hl : b.length ≤ 6000) (s c : Int) (n : Nat) (hn : n ≤ 256) (hc : 1 ≤ c ∧ c ≤ 256) (v11 : List Int) (v13 : List (List Int)) (v14 : List Bool) (v15 : List (List Int)) (v16 : List Bool)
  (Kr : List Int → Int → Int → Int → Int → List Int → List Int → List (List Int) → List Bool → List (List Int) → List Bool → Option R) (Ke : List Int → Int → Int → Int → List Int → List Int → List (List Int) → List Bool → List (List Int) → List Bool → Option R)
  (T : Int → Option R) (hKr : ∀ e s c a C, Kr b e s c a rep0 C [] [] v15 v16 = T e) :
  ∀ (m k i a p : Nat) (was : Int) (C : List Int), i + m = n → m + 300 < k → p ≤ b.length → a ≤ 256 →
  yy31_l12 kf k Kr Ke b s c (n : Int) (p : Int) ((a : Int) - 1) was (i : Int) v11 C v13 v14 v15 v16 =
   (let x := rruns c m a was (b.drop p) C; bif !(Err.isNil x.1) then T (codeI x.1) else Ke b s c ((b.length - x.2.1.length : Nat) : Int) v11 x.2.2 v13 v14 v15 v16)
 | m, 0, i, a, p, was, C, _, h, _, _ => by omega
 | 0, k + 1, i, a, p, was, C, hi, _, hp, _ => by
  have : decide ((i : Int) < (n : Int)) = false := decide_eq_false (by omega)
  unfold yy31_l12 yy31_l12_b rruns
  dsimp only
  rw [this, cond_false, nn0, cond_false, List.length_drop, show b.length - (b.length - p) = p by omega]
 | m + 1, k + 1, i, a, p, was, C, hi, hk, hp, ha => by
  have g1 : decide ((i : Int) < (n : Int)) = true := decide_eq_true (by omega)
  have gm : decide ((i : Int) = IntKind.i64.wrap ((n : Int) - 1)) = decide (m = 0) := by
   have : IntKind.i64.wrap ((n : Int) - 1) = (n : Int) - 1 := by rw [IntKind.wrap_i64]; omega
   rw [this]
   by_cases h : m = 0
   ·rw [decide_eq_true h, decide_eq_true (by omega)]
   ·rw [decide_eq_false h, decide_eq_false (by omega)]
  unfold yy31_l12 yy31_l12_b rruns
  dsimp only
  rw [g1, cond_true, gm]
  cases hd : b.drop p with
  | nil =>
   have := drop_nil hd
   rw [decide_eq_true (by omega : (b.length : Int) ≤ (p : Int)), cond_true, hKr]
   rfl
  | cons x r =>
   obtain ⟨h1, h2, h3⟩ := drop_at hd
   have hx := hb x (List.mem_of_mem_drop (show x ∈ b.drop p by rw [hd]; exact List.mem_cons_self))
   obtain ⟨xn, rfl⟩ := Int.eq_ofNat_of_zero_le hx.1
   have hx2 : xn ≤ 255 := by omega
   rw [decide_eq_false (by omega : ¬ (b.length : Int) ≤ (p : Int)), cond_false, gd_true (decide_eq_true (by omega)), gd_true (decide_eq_true (by omega)), show Int.toNat (p : Int) = p from rfl, h2, wbr _ (by omega)]
   have hr : ∀ f : Int, rb f 255 ((xn : Int) :: r) = (bif decide ((xn : Int) < f) || decide (255 < (xn : Int)) then (0, BADI 3, r) else ((xn : Int), .nil, r)) := fun f => rfl
   rw [hr, decide_eq_false (by omega : ¬ 255 < (xn : Int)), Bool.or_false, wi1j p (by omega)]
   have bad : ∀ (q : Bool), q = true → (bif !(Err.isNil (bif q then ((0 : Int), BADI 3, r) else ((xn : Int), Err.nil, r)).2.1) then T (codeI (bif q then ((0 : Int), BADI 3, r) else ((xn : Int), Err.nil, r)).2.1) else none) = T 3 := fun q hq => by subst hq; rfl
   by_cases ca : (xn : Int) ≤ (a : Int) - 1
   ·rw [decide_eq_true ca, cond_true, cond_true, hKr]
    cases hq : decide ((xn : Int) < (bif decide (m = 0) then 255 else (a : Int))) with
    | true => rfl
    | false =>
     have hq := of_decide_eq_false hq
     have : 255 < (a : Int) := by
      by_cases hm : m = 0
      ·rw [decide_eq_true hm, cond_true] at hq; omega
      ·rw [decide_eq_false hm, cond_false] at hq; omega
     rw [decide_eq_true this]; rfl
   rw [decide_eq_false ca, cond_false]
   have hgd : ∀ X : Option R, gd (decide (0 ≤ (p : Int))) (gd (decide ((p : Int) < (b.length : Int))) X) = X := fun X => by rw [gd_true (decide_eq_true (by omega)), gd_true (decide_eq_true (by omega))]
   by_cases cb : m = 0 ∧ xn < 255
   ·have hq : decide ((xn : Int) < (bif decide (m = 0) then 255 else (a : Int))) = true := by rw [decide_eq_true cb.1, cond_true]; exact decide_eq_true (by omega)
    rw [hq, decide_eq_true cb.1, cond_true, hgd, decide_eq_false (by omega : ¬ (xn : Int) = 255), Bool.not_false, cond_true, hKr]; rfl
   have hpass : decide ((xn : Int) < (bif decide (m = 0) then 255 else (a : Int))) = false := by
    by_cases hm : m = 0
    ·rw [decide_eq_true hm, cond_true]; exact decide_eq_false (by omega)
    ·rw [decide_eq_false hm, cond_false]; exact decide_eq_false (by omega)
   have hj : ∀ J : Bool → Option R, (bif decide (m = 0) then gd (decide (0 ≤ (p : Int))) (gd (decide ((p : Int) < (b.length : Int))) (J (!decide ((xn : Int) = 255)))) else J false) = J false := by
    intro J
    by_cases hm : m = 0
    ·rw [decide_eq_true hm, cond_true, hgd, decide_eq_true (by omega : (xn : Int) = 255)]; rfl
    ·rw [decide_eq_false hm, cond_false]
   rw [hj fun v17 => bif v17 then _ else _]
   rw [cond_false, hpass, cond_false]
   dsimp only
   rw [nn0, cond_false, decide_eq_false (by omega : ¬ 255 < (a : Int)), cond_false]
   cases hd2 : r with
   | nil =>
    have := drop_nil (h3.trans hd2)
    rw [decide_eq_true (by omega : (b.length : Int) ≤ ((p + 1 : Nat) : Int)), cond_true, hKr]
    rfl
   | cons y r' =>
    obtain ⟨q1, q2, q3⟩ := drop_at (h3.trans hd2)
    have hy := hb y (List.mem_of_mem_drop (show y ∈ b.drop (p + 1) by rw [h3, hd2]; exact List.mem_cons_self))
    have hg2 : ∀ X : Option R, gd (decide (0 ≤ ((p + 1 : Nat) : Int))) (gd (decide (((p + 1 : Nat) : Int) < (b.length : Int))) X) = X := fun X => by rw [gd_true (decide_eq_true (by omega)), gd_true (decide_eq_true (by omega))]
    rw [decide_eq_false (by omega : ¬ (b.length : Int) ≤ ((p + 1 : Nat) : Int)), cond_false, hg2, hg2, show Int.toNat ((p + 1 : Nat) : Int) = p + 1 from rfl, q2, wbr y hy]
    have hr2 : rb 0 (c - 1) (y :: r') = (bif decide (y < 0) || decide (c - 1 < y) then (0, BADI 3, r') else (y, .nil, r')) := rfl
    rw [hr2, decide_eq_false (by omega : ¬ y < 0), Bool.false_or]
    by_cases c1 : c ≤ y
    ·rw [decide_eq_true c1, decide_eq_true (by omega : c - 1 < y)]
     cases decide (y = was) <;> simp only [cond_true, cond_false, hKr] <;> rfl
    ·rw [decide_eq_false c1, decide_eq_false (by omega : ¬ c - 1 < y)]
     by_cases c2 : y = was
     ·rw [decide_eq_true c2]
      simp only [cond_true, cond_false, hKr]
      rw [nn0, cond_false, decide_eq_true c2]
      rfl
     ·rw [decide_eq_false c2]
      simp only [cond_true, cond_false]
      rw [nn0, cond_false, decide_eq_false c2, cond_false]
      rw [show IntKind.i64.wrap ((a : Int) - 1 + 1) = (a : Int) by rw [IntKind.wrap_i64]; omega]
      refine (rt23 kf b p hl q1 xn h2 hx2 s c n i was v13 v14 v15 v16 v11 _ (xn + 1 - a) k a C (by omega) (by omega)).trans ?_
      rw [hgd]
      rw [wi1j p (by omega), hg2, show Int.toNat (p : Int) = p from rfl, show Int.toNat ((p + 1 : Nat) : Int) = p + 1 from rfl, h2, q2, wbr (xn : Int) (by omega), wbr y hy, wi1j i (by omega)]
      rw [show IntKind.i64.wrap ((p : Int) + 2) = ((p + 2 : Nat) : Int) by rw [IntKind.wrap_i64]; omega, show (xn : Int) = ((xn + 1 : Nat) : Int) - 1 by omega]
      refine (rt12 kf hkf b hb hl s c n hn hc v11 v13 v14 v15 v16 Kr Ke T hKr m k (i + 1) (xn + 1) (p + 2) y _ (by omega) (by omega) (by omega) (by omega)).trans ?_
      rw [q3]
      rw [show ((((xn + 1 : Nat) : Int) - 1).toNat) = xn by omega]
end Go.Ab.T

/- Images: what the reference's Take answers: its rows, and the whole of it. -/
namespace Go.Ab.T
open Go Go.Ab
set_option linter.unusedVariables false
set_option linter.unusedSimpArgs false
set_option maxRecDepth 20000
theorem rb_suf (f t : Int) (b : List Int) : (rb f t b).2.2 <:+ b := by
 rcases rb_cases f t b with ⟨x, r, rfl, _, _, e⟩ | ⟨rfl, e⟩ | ⟨x, r, rfl, _, e⟩ <;> rw [e]
 ·exact ⟨[x], rfl⟩
 ·exact ⟨[], rfl⟩
 ·exact ⟨[x], rfl⟩
theorem rrow_suf (n : Int) : ∀ (m : Nat) (b acc : List Int), (rrow n m b acc).2.1 <:+ b
 | 0, b, acc => ⟨[], rfl⟩
 | m + 1, b, acc => by
  unfold rrow
  cases h : Err.isNil (rb 0 (n - 1) b).2.1 with
  | false => exact rb_suf 0 (n - 1) b
  | true => exact (rrow_suf n m _ _).trans (rb_suf 0 (n - 1) b)
theorem rrows_suf (n : Int) (c : Nat) : ∀ (m : Nat) (b : List Int) (N : List (List Int)) (E : List Bool), (rrows n c m b N E).2.1 <:+ b
 | 0, b, N, E => ⟨[], rfl⟩
 | m + 1, b, N, E => by
  unfold rrows
  dsimp only
  cases h : Err.isNil (rb 0 1 b).2.1 with
  | false => exact rb_suf 0 1 b
  | true =>
   cases h2 : Err.isNil (rrow n (c + 1) (rb 0 1 b).2.2 []).1 with
   | false => simp only [Bool.not_true, cond_false, h2, Bool.not_false, cond_true]; exact (rrow_suf n _ _ _).trans (rb_suf 0 1 b)
   | true => simp only [Bool.not_true, cond_false, h2]; exact (rrows_suf n c m _ _ _).trans ((rrow_suf n _ _ _).trans (rb_suf 0 1 b))
theorem rruns_sf (c : Int) : ∀ (m a : Nat) (was : Int) (b C : List Int), (rruns c m a was b C).2.1 <:+ b
 | 0, a, was, b, C => ⟨[], rfl⟩
 | m + 1, a, was, b, C => by
  unfold rruns
  dsimp only
  have h1 := rb_suf (bif decide (m = 0) then 255 else (a : Int)) 255 b
  generalize rb (bif decide (m = 0) then 255 else (a : Int)) 255 b = x at *
  have h2 := rb_suf 0 (c - 1) x.2.2
  generalize rb 0 (c - 1) x.2.2 = y at *
  cases Err.isNil x.2.1
  ·exact h1
  cases decide (255 < (a : Int))
  rotate_left
  ·exact h1
  cases Err.isNil y.2.1
  ·exact h2.trans h1
  cases decide (y.1 = was)
  rotate_left
  ·exact h2.trans h1
  exact (rruns_sf c m _ _ _ _).trans (h2.trans h1)
theorem rruns_suf (c : Int) (m a : Nat) (was : Int) (b C : List Int) : ∃ z, b = z ++ (rruns c m a was b C).2.1 := by
 obtain ⟨z, hz⟩ := rruns_sf c m a was b C
 exact ⟨z, hz.symm⟩
theorem rrows_le (n : Int) (c m : Nat) (b : List Int) (N : List (List Int)) (E : List Bool) : (rrows n c m b N E).2.1.length ≤ b.length := (rrows_suf n c m b N E).length_le
theorem rt32 {R : Type} (kf : Nat) (b : List Int) (hb : isB b) (hl : b.length ≤ 6000) (s : Int) (hs : 1 ≤ s ∧ s ≤ 20) (c : Nat) (hc : c ≤ 256) (v83 : Int) (v85 v86 : List Int) (v88 : List (List Int)) (v89 : List Bool) (v90 : List (List Int)) (E : List Bool)
  (Kr : List Int → Int → Int → Int → Int → Int → List Int → List Int → List Int → List (List Int) → List Bool → List (List Int) → List Bool → Option R)
  (Ke : List Int → Int → Int → Int → Int → List Int → List Int → List Int → List (List Int) → List Bool → List (List Int) → List Bool → Option R)
  (T : Int → Option R) (hKr : ∀ e p row, Kr b e s (c : Int) p v83 rep0 v86 row [] [] v90 E = T e) :
  ∀ (m k j p : Nat) (row : List Int), j + m = c + 1 → 1 ≤ j → m < k → p ≤ b.length → row.length ≤ j →
  yy31_l32 kf k b s (c : Int) v83 v85 v86 v88 v89 v90 Kr Ke (p : Int) (j : Int) row E =
   (let x := rrow s m (b.drop p) row; bif !(Err.isNil x.1) then T (codeI x.1) else Ke b s (c : Int) ((b.length - x.2.1.length : Nat) : Int) v83 v85 v86 x.2.2 v88 v89 v90 E)
 | m, 0, j, p, row, _, _, h, _, _ => by omega
 | 0, k + 1, j, p, row, hj, _, _, hp, _ => by
  have : decide ((j : Int) ≤ (c : Int)) = false := decide_eq_false (by omega)
  unfold yy31_l32 yy31_l32_b rrow
  dsimp only
  rw [this, cond_false, nn0, cond_false, List.length_drop, show b.length - (b.length - p) = p by omega]
 | m + 1, k + 1, j, p, row, hj, hj1, hk, hp, hrow => by
  have g1 : decide ((j : Int) ≤ (c : Int)) = true := decide_eq_true (by omega)
  have hw1 : IntKind.i64.wrap ((j : Int) + 1) = ((j + 1 : Nat) : Int) := wi1j j (by omega)
  have hw2 : IntKind.i64.wrap ((p : Int) + 1) = ((p + 1 : Nat) : Int) := wi1j p (by omega)
  unfold yy31_l32 yy31_l32_b rrow
  dsimp only
  rw [g1, cond_true]
  cases hd : b.drop p with
  | nil =>
   have := drop_nil hd
   rw [decide_eq_true (by omega : (b.length : Int) ≤ (p : Int)), cond_true, hKr]
   rfl
  | cons x r =>
   obtain ⟨h1, h2, h3⟩ := drop_at hd
   have hx := hb x (List.mem_of_mem_drop (show x ∈ b.drop p by rw [hd]; exact List.mem_cons_self))
   have hgd : ∀ X : Option R, gd (decide (0 ≤ (p : Int))) (gd (decide ((p : Int) < (b.length : Int))) X) = X := fun X => by rw [gd_true (decide_eq_true (by omega)), gd_true (decide_eq_true (by omega))]
   have hr : rb 0 (s - 1) (x :: r) = (bif decide (x < 0) || decide (s - 1 < x) then (0, BADI 3, r) else (x, .nil, r)) := rfl
   rw [decide_eq_false (by omega : ¬ (b.length : Int) ≤ (p : Int)), cond_false, decide_eq_false (by omega : ¬ (j : Int) = 0), decide_eq_true (by omega : 0 < (j : Int))]
   simp only [cond_true, cond_false, hgd, show Int.toNat (p : Int) = p from rfl, h2, wbr x hx, hr, hw1, hw2]
   rw [decide_eq_false (by omega : ¬ x < 0), Bool.false_or]
   by_cases c1 : s ≤ x
   ·rw [decide_eq_true c1, decide_eq_true (by omega : s - 1 < x), cond_true, hKr]; rfl
   ·rw [decide_eq_false c1, decide_eq_false (by omega : ¬ s - 1 < x), cond_false, cond_false]
    dsimp only
    rw [nn0, cond_false, gd_true (decide_eq_true (by have : SMALL = 17179869184 := rfl; simp; omega))]
    refine (rt32 kf b hb hl s hs c hc v83 v85 v86 v88 v89 v90 E Kr Ke T hKr m k (j + 1) (p + 1) (row ++ [x]) (by omega) (by omega) (by omega) (by omega) (by simp; omega)).trans ?_
    rw [h3]
theorem rt28 {R : Type} (kf : Nat) (b : List Int) (hb : isB b) (hl : b.length ≤ 6000) (s : Nat) (hs : 1 ≤ s ∧ s ≤ 20) (c : Nat) (hc : c ≤ 255) (v73 C : List Int) (v75 : List (List Int)) (v76 : List Bool)
  (Kr : List Int → Int → Int → List Int → List Int → List (List Int) → List Bool → List (List Int) → List Bool → Option R)
  (Ke : List Int → Int → List Int → List Int → List (List Int) → List Bool → List (List Int) → List Bool → Option R)
  (T : Int → Option R) (hKr : ∀ e p N E, Kr b e p rep0 C [] [] N E = T e) :
  ∀ (m k i p : Nat) (N : List (List Int)) (E : List Bool), i + m = s → m + 300 < k → p ≤ b.length → N.length ≤ i → E.length ≤ i →
  yy31_l28 kf k Kr Ke b (s : Int) ((c + 1 : Nat) : Int) (p : Int) (i : Int) v73 C v75 v76 N E =
   (let x := rrows (s : Int) c m (b.drop p) N E; bif !(Err.isNil x.1) then T (codeI x.1) else Ke b ((b.length - x.2.1.length : Nat) : Int) v73 C v75 v76 x.2.2.1 x.2.2.2)
 | m, 0, i, p, N, E, _, h, _, _, _ => by omega
 | 0, k + 1, i, p, N, E, hi, _, hp, _, _ => by
  have : decide ((i : Int) < (s : Int)) = false := decide_eq_false (by omega)
  unfold yy31_l28 yy31_l28_b rrows
  dsimp only
  rw [this, cond_false, nn0, cond_false, List.length_drop, show b.length - (b.length - p) = p by omega]
 | m + 1, k + 1, i, p, N, E, hi, hk, hp, hN, hE => by
  have g1 : decide ((i : Int) < (s : Int)) = true := decide_eq_true (by omega)
  obtain ⟨k, rfl⟩ : ∃ k', k = k' + 1 := ⟨k - 1, by omega⟩
  unfold yy31_l28 yy31_l28_b rrows
  dsimp only
  rw [g1, cond_true, yy31_l32]
  unfold yy31_l32_b
  dsimp only
  rw [decide_eq_true (by omega : (0 : Int) ≤ ((c + 1 : Nat) : Int)), cond_true]
  have z1 : decide ((0 : Int) = 0) = true := rfl
  have z2 : decide ((0 : Int) < 0) = false := rfl
  have z3 : IntKind.i64.wrap (0 + 1) = ((1 : Nat) : Int) := rfl
  have hw2 : IntKind.i64.wrap ((p : Int) + 1) = ((p + 1 : Nat) : Int) := wi1j p (by omega)
  cases hd : b.drop p with
  | nil =>
   have := drop_nil hd
   rw [decide_eq_true (by omega : (b.length : Int) ≤ (p : Int)), cond_true, hKr]
   rfl
  | cons x r =>
   obtain ⟨h1, h2, h3⟩ := drop_at hd
   have hx := hb x (List.mem_of_mem_drop (show x ∈ b.drop p by rw [hd]; exact List.mem_cons_self))
   have hgd : ∀ X : Option R, gd (decide (0 ≤ (p : Int))) (gd (decide ((p : Int) < (b.length : Int))) X) = X := fun X => by rw [gd_true (decide_eq_true (by omega)), gd_true (decide_eq_true (by omega))]
   have hr : rb 0 1 (x :: r) = (bif decide (x < 0) || decide (1 < x) then (0, BADI 3, r) else (x, .nil, r)) := rfl
   rw [decide_eq_false (by omega : ¬ (b.length : Int) ≤ (p : Int)), cond_false]
   simp only [z1, z2, z3, cond_true, cond_false, hgd, show Int.toNat (p : Int) = p from rfl, h2, hr, hw2]
   rw [decide_eq_false (by omega : ¬ x < 0), Bool.false_or]
   by_cases c1 : 1 < x
   ·rw [decide_eq_true c1, cond_true, hKr]; rfl
   ·rw [decide_eq_false c1, cond_false, cond_false]
    dsimp only
    rw [nn0, cond_false, gd_true (decide_eq_true (by have : SMALL = 17179869184 := rfl; simp; omega))]
    refine (rt32 kf b hb hl (s : Int) (by omega) (c + 1) (by omega) (i : Int) v73 C v75 v76 N (E ++ [decide (x = 1)]) _ _ T (fun e p row => hKr e p N (E ++ [decide (x = 1)])) (c + 1) k 1 (p + 1) [] (by omega) (by omega) (by omega) (by omega) (by simp)).trans ?_
    rw [h3]
    dsimp only
    have he := rrow_e (s : Int) (c + 1) r []
    cases hn : Err.isNil (rrow (s : Int) (c + 1) r []).1 with
    | false => simp only [Bool.not_false, cond_true, hn]
    | true =>
     simp only [Bool.not_true, cond_false]
     have hnil := isNil_iff.1 hn
     have hlen : (rrow (s : Int) (c + 1) r []).2.1.length ≤ r.length := (rrow_suf (s : Int) (c + 1) r []).length_le
     have hrl : r.length = b.length - (p + 1) := by rw [← h3, List.length_drop]
     have hdr : b.drop (b.length - (rrow (s : Int) (c + 1) r []).2.1.length) = (rrow (s : Int) (c + 1) r []).2.1 := by
      obtain ⟨y, h6⟩ := rrow_suf (s : Int) (c + 1) r []
      have e1 := congrArg List.length h6
      rw [List.length_append] at e1
      have e2 : b.length - (rrow (s : Int) (c + 1) r []).2.1.length = (p + 1) + y.length := by omega
      rw [e2, ← List.drop_drop, h3]
      have e3 : r.drop y.length = (y ++ (rrow (s : Int) (c + 1) r []).2.1).drop y.length := by rw [h6]
      rw [e3, List.drop_left]
     rw [gd_true (decide_eq_true (by have : SMALL = 17179869184 := rfl; simp; omega)), wi1j i (by omega)]
     refine (rt28 kf b hb hl s hs c hc v73 C v75 v76 Kr Ke T hKr m (k + 1) (i + 1) (b.length - (rrow (s : Int) (c + 1) r []).2.1.length) _ _ (by omega) (by omega) (by omega) (by simp; omega) (by simp; omega)).trans ?_
     rw [hdr]
theorem rtake_ok {R : Type} (kf : Nat) (hkf : 1000 ≤ kf) (b : List Int) (hb : isB b) (hl : b.length ≤ 6000) (K : List Int → Int → List (List Int) → List Bool → Option R) :
  yy31 kf b K = (let p := preI b; bif !(Err.isNil p.e) then K rep0 (codeI p.e) [] [] else bif decide (0 < (p.b.length : Int)) then K rep0 3 [] [] else yy25 kf p.C p.N p.E (fun v => bif !v then K rep0 3 [] [] else K p.C 0 p.N p.E)) := by
 unfold yy31 yy31_b preI
 cases b with
 | nil => rfl
 | cons x0 b1 =>
  have hx0 := hb x0 List.mem_cons_self
  have hr0 : rb 1 20 (x0 :: b1) = (bif decide (x0 < 1) || decide (20 < x0) then (0, BADI 3, b1) else (x0, .nil, b1)) := rfl
  have hlen : (x0 :: b1).length = b1.length + 1 := rfl
  dsimp only
  rw [decide_eq_false (by omega : ¬ ((x0 :: b1).length : Int) < 1), cond_false, gd_true (decide_eq_true (by omega)), show (x0 :: b1).getD 0 0 = x0 from rfl, wbr x0 hx0, hr0]
  by_cases q1 : x0 < 1
  ·rw [decide_eq_true q1]; rfl
  rw [decide_eq_false q1, cond_false, Bool.false_or]
  by_cases q2 : 20 < x0
  ·rw [decide_eq_true q2]; rfl
  rw [decide_eq_false q2, cond_false, cond_false]
  dsimp only
  rw [nn0, cond_false]
  cases b1 with
  | nil => rfl
  | cons x1 b2 =>
   have hx1 := hb x1 (by simp)
   have hr1 : rb 0 255 (x1 :: b2) = (bif decide (x1 < 0) || decide (255 < x1) then (0, BADI 3, b2) else (x1, .nil, b2)) := rfl
   rw [hr1, decide_eq_false (by omega : ¬ x1 < 0), decide_eq_false (by omega : ¬ 255 < x1), Bool.or_self, cond_false]
   dsimp only
   rw [nn0, cond_false]
   cases b2 with
   | nil => rfl
   | cons x2 r =>
    have hx2 := hb x2 (by simp)
    have hlen : (x0 :: x1 :: x2 :: r).length = r.length + 3 := rfl
    have hr2 : rb 0 255 (x2 :: r) = (bif decide (x2 < 0) || decide (255 < x2) then (0, BADI 3, r) else (x2, .nil, r)) := rfl
    have hrs : runsr (x1 + 1) (x2 :: r) = ((rruns (x1 + 1) (x2.toNat + 1) 0 (-1) r rep0).2.2, (rruns (x1 + 1) (x2.toNat + 1) 0 (-1) r rep0).1, (rruns (x1 + 1) (x2.toNat + 1) 0 (-1) r rep0).2.1) := by
     unfold runsr
     rw [hr2, decide_eq_false (by omega : ¬ x2 < 0), decide_eq_false (by omega : ¬ 255 < x2)]
     rfl
    rw [hrs]
    dsimp only
    obtain ⟨s, rfl⟩ := Int.eq_ofNat_of_zero_le (by omega : 0 ≤ x0)
    obtain ⟨c, rfl⟩ := Int.eq_ofNat_of_zero_le hx1.1
    obtain ⟨n, rfl⟩ := Int.eq_ofNat_of_zero_le hx2.1
    rw [decide_eq_false (by omega), cond_false, gd_true (decide_eq_true (by omega)), gd_true (decide_eq_true (by omega)), show ((s : Int) :: (c : Int) :: (n : Int) :: r).getD 1 0 = (c : Int) from rfl, show ((s : Int) :: (c : Int) :: (n : Int) :: r).getD 2 0 = (n : Int) from rfl,
     wbr (c : Int) hx1, wbr (n : Int) hx2, wi1j c (by omega), wi1j n (by omega)]
    generalize hB : (s : Int) :: (c : Int) :: (n : Int) :: r = B at *
    have hd3 : B.drop 3 = r := by rw [← hB]; rfl
    refine (rt12 kf (by omega) B hb hl (s : Int) ((c + 1 : Nat) : Int) (n + 1) (by omega) (by omega) rep0 [] [] [] [] _ _ (fun e => K rep0 e [] []) (fun e s c a C => rfl) (n + 1) kf 0 0 3 (-1) rep0 (by omega) (by omega) (by omega) (by omega)).trans ?_
    rw [hd3]
    dsimp only
    rw [show ((n : Int).toNat + 1) = n + 1 from rfl, show ((c : Int) + 1) = ((c + 1 : Nat) : Int) by omega, show (c : Int).toNat = c from rfl, show (s : Int).toNat = s from rfl]
    have he := rruns_e ((c + 1 : Nat) : Int) (n + 1) 0 (-1) r rep0
    cases hn : Err.isNil (rruns ((c + 1 : Nat) : Int) (n + 1) 0 (-1) r rep0).1 with
    | false => simp only [Bool.not_false, cond_true, hn]
    | true =>
     simp only [Bool.not_true, cond_false]
     have hsuf : ∀ y : Nat, y = B.length - (rruns ((c + 1 : Nat) : Int) (n + 1) 0 (-1) r rep0).2.1.length → B.drop y = (rruns ((c + 1 : Nat) : Int) (n + 1) 0 (-1) r rep0).2.1 ∧ y ≤ B.length := by
      intro y hy
      obtain ⟨z, hz⟩ := rruns_suf ((c + 1 : Nat) : Int) (n + 1) 0 (-1) r rep0
      have e1 := congrArg List.length hz
      rw [List.length_append] at e1
      have e2 : B.length = r.length + 3 := by rw [← hB]; rfl
      have : y = 3 + z.length := by omega
      refine ⟨?_, by omega⟩
      rw [this, ← List.drop_drop, hd3]
      rw (occs := .pos [1]) [hz]
      rw [List.drop_left]
     obtain ⟨s1, s2⟩ := hsuf _ rfl
     refine (rt28 kf B hb hl s (by omega) c (by omega) rep0 _ [] [] _ _ (fun e => K rep0 e [] []) (fun e p N E => rfl) s kf 0 _ [] [] (by omega) (by omega) s2 (by simp) (by simp)).trans ?_
     rw [s1]
     dsimp only
     generalize (rruns ((c + 1 : Nat) : Int) (n + 1) 0 (-1) r rep0).2.1 = b3 at *
     generalize (rruns ((c + 1 : Nat) : Int) (n + 1) 0 (-1) r rep0).2.2 = C3 at *
     have hl3 : b3.length ≤ B.length := by rw [← s1, List.length_drop]; omega
     have he := rrows_e (s : Int) c s b3 [] []
     cases hn2 : Err.isNil (rrows (s : Int) c s b3 [] []).1 with
     | false => simp only [Bool.not_false, cond_true]
     | true =>
      simp only [Bool.not_true, cond_false]
      have hnil := isNil_iff.1 hn2
      have hle : (rrows (s : Int) c s b3 [] []).2.1.length ≤ b3.length := rrows_le (s : Int) c s b3 [] []
      generalize rrows (s : Int) c s b3 [] [] = w at *
      obtain ⟨w1, w2, w3, w4⟩ := w
      dsimp only at *
      have hdec : decide (((B.length - w2.length : Nat) : Int) = (B.length : Int)) = !(decide (0 < (w2.length : Int))) := by
       by_cases h : 0 < w2.length
       ·rw [decide_eq_false (by omega), decide_eq_true (by omega)]; rfl
       ·rw [decide_eq_true (by omega), decide_eq_false (by omega)]; rfl
      rw [hdec, Bool.not_not]
      cases decide (0 < (w2.length : Int)) with
      | true => rfl
      | false => rfl
end Go.Ab.T

/- Images: the law ImageReads. -/
namespace Go.Ab.T
open Go Go.Ab
set_option linter.unusedVariables false
set_option linter.unusedSimpArgs false
set_option maxRecDepth 20000
theorem same_none {R : Type} (kf : Nat) (hkf : 3 ≤ kf) (K : Bool → Option R) : yy30 kf rep0 [] [] rep0 [] [] K = K true := by
 obtain ⟨kf, rfl⟩ : ∃ k', kf = k' + 1 := ⟨kf - 1, by omega⟩
 unfold yy30 yy30_b
 dsimp only
 rw [decide_eq_true rfl]
 rfl
theorem reads15_ok {R : Type} (kf : Nat) (hkf : 20000 ≤ kf) (b : List Int) (hb : isB b) (K : Bool → Option R) : yy9 kf b K = K true := by
 unfold yy9 yy9_b
 rw [begun15_ok kf hkf, Bool.not_true, cond_false]
 by_cases h1 : 6000 < (b.length : Int)
 ·rw [decide_eq_true h1]; rfl
 rw [decide_eq_false h1, cond_false, twin_ok kf (by omega) b (by omega)]
 have et : (b ++ spare).take (Int.toNat (b.length : Int)) = b := by
  rw [show Int.toNat (b.length : Int) = b.length from rfl, List.take_left]
 dsimp only
 have ht := fun K => take_ok (R := R) kf (by omega) b ⟨hb, by omega⟩ K
 have hr := fun K => rtake_ok (R := R) kf (by omega) b hb (by omega) K
 have hk := fun K => kept_ok (R := R) kf (by omega) b (by omega) K
 rw [et, ht]
 simp only [hr]
 have hsn := fun K => same_none (R := R) kf (by omega) K
 have hpe := preI_e b
 have hpn := preI_nil b
 generalize preI b = p at *
 cases he : Err.isNil p.e with
 | false =>
  simp only [Bool.not_false, cond_true]
  simp only [decide_true, cond_true, hk, hsn]
 | true =>
  simp only [Bool.not_true, cond_false]
  cases hz : decide (0 < (p.b.length : Int)) with
  | true =>
   simp only [cond_true]
   simp only [decide_true, cond_true, hk, hsn]
  | false =>
   simp only [cond_false]
   obtain ⟨n, c, hp, _⟩ := hpn (isNil_iff.1 he)
   rcases may_any (R := R) (E := p.E) hp.isC hp.rows kf (by omega) with ⟨k, m, h⟩ | ⟨hno, hmay⟩
   ·by_cases hc : ∃ n m, Canon p.C p.N p.E n m
    ·obtain ⟨n', m', hc⟩ := hc
     have i1 := fun K => is_canon (R := R) hc kf hkf K
     have i2 := fun K => ris_canon (R := R) hc kf hkf K
     simp only [i1, i2, Bool.not_true, cond_false]
     have hs : ∀ K : Bool → Option R, yy30 kf p.C p.N p.E p.C p.N p.E K = K true := fun K => by rw [rsame_ok hc.mch kf (by omega), decide_eq_true ⟨rfl, rfl, rfl⟩]
     simp only [decide_true, cond_true, hk, hs]
    ·have i1 := fun K => is_not (R := R) h hc kf hkf K
     have i2 := fun K => ris_not (R := R) h hc kf hkf K
     simp only [i1, i2, Bool.not_false, cond_true]
     simp only [decide_true, cond_true, hk, hsn]
   ·have i1 : ∀ K : Bool → Option R, yy11 kf p.C p.N p.E K = K false := fun K => by
     unfold yy11 yy11_b
     rw [hmay, cond_false]
    have i2 : ∀ K : Bool → Option R, yy25 kf p.C p.N p.E K = K false := fun K => by
     unfold yy25 yy25_b
     rw [rmay_not hp.isC hno hp.rows kf (by omega), cond_false]
    simp only [i1, i2, Bool.not_false, cond_true]
    simp only [decide_true, cond_true, hk, hsn]
end Go.Ab.T
