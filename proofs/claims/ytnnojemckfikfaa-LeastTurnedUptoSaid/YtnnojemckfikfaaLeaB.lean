/- LeaB: a part of the proofs of this seat's statements. -/
import Derived.Test.YtnnojemckfikfaaLeaA
import Derived.Test.YtnnojemckfikfaaMacA
/- When two machines are one, and least.Is; what is done at the beginning. -/
namespace Go.Ab.T
open Go Go.Ab
set_option linter.unusedVariables false
set_option linter.unusedSimpArgs false

section
variable {R : Type}

theorem eqI_ok (kf : Nat) (a b : List Int) (hs : a.length + 10 < kf) (hb : a.length ≤ 100000) (K : Bool → Option R) : slices_Equal_int_int kf a b K = K (decide (a = b)) := by
  unfold slices_Equal_int_int slices_Equal_int_int_b
  by_cases hl : a.length = b.length
  rotate_left
  · have hne : a ≠ b := fun h => hl (by rw [h])
    rw [decide_eq_false (show ¬ ((a.length : Int) = (b.length : Int)) by omega), Bool.not_false, cond_true, decide_eq_false hne]
  rw [hl, decide_eq_true rfl, Bool.not_true, cond_false]
  refine loop_inv (fun kk i (_ : Unit) => slices_Equal_int_int_l4 kf kk a b (b.length : Int) (fun (v7 : Bool) => K v7) (K true) (i : Int)) _ b.length 0 (fun i _ => ∀ j, j < i → a.getD j 0 = b.getD j 0) ?_ ?_ b.length kf 0 () (by omega) (by omega) (by intro j hj; omega)
  · intro kk _ hall
    rw [slices_Equal_int_int_l4]
    unfold slices_Equal_int_int_l4_b
    rw [decide_eq_false (show ¬ ((b.length : Int) < (b.length : Int)) by omega), cond_false]
    have : a = b := ext_getD 0 hl fun i hi => hall i (by omega)
    rw [decide_eq_true this]
  · intro kk i _ _ hi hall
    have g0 : decide (0 ≤ (i : Int)) = true := decide_eq_true (by omega)
    have g1 : decide ((i : Int) < (a.length : Int)) = true := decide_eq_true (by omega)
    have g2 : decide ((i : Int) < (b.length : Int)) = true := decide_eq_true (by omega)
    by_cases he : a.getD i 0 = b.getD i 0
    · left
      refine ⟨(), fun j hj => ?_, ?_⟩
      · by_cases hji : j = i
        · subst hji; exact he
        · exact hall j (by omega)
      · rw [slices_Equal_int_int_l4]
        unfold slices_Equal_int_int_l4_b
        rw [g2, cond_true, g0, gd_true rfl, g1, gd_true rfl, gd_true rfl, gd_true rfl, Int.toNat_natCast, he, decide_eq_true rfl, Bool.not_true, cond_false, wi_1 i (by omega)]
    · right
      have hne : a ≠ b := fun h => he (by rw [h])
      rw [slices_Equal_int_int_l4]
      unfold slices_Equal_int_int_l4_b
      rw [g2, cond_true, g0, gd_true rfl, g1, gd_true rfl, gd_true rfl, gd_true rfl, Int.toNat_natCast, decide_eq_false he, Bool.not_false, cond_true, decide_eq_false hne]

theorem eqB_ok (kf : Nat) (a b : List Bool) (hs : a.length + 10 < kf) (hb : a.length ≤ 100000) (K : Bool → Option R) : slices_Equal_bool_bool kf a b K = K (decide (a = b)) := by
  unfold slices_Equal_bool_bool slices_Equal_bool_bool_b
  by_cases hl : a.length = b.length
  rotate_left
  · have hne : a ≠ b := fun h => hl (by rw [h])
    rw [decide_eq_false (show ¬ ((a.length : Int) = (b.length : Int)) by omega), Bool.not_false, cond_true, decide_eq_false hne]
  rw [hl, decide_eq_true rfl, Bool.not_true, cond_false]
  refine loop_inv (fun kk i (_ : Unit) => slices_Equal_bool_bool_l4 kf kk a b (b.length : Int) (fun (v7 : Bool) => K v7) (K true) (i : Int)) _ b.length 0 (fun i _ => ∀ j, j < i → a.getD j false = b.getD j false) ?_ ?_ b.length kf 0 () (by omega) (by omega) (by intro j hj; omega)
  · intro kk _ hall
    rw [slices_Equal_bool_bool_l4]
    unfold slices_Equal_bool_bool_l4_b
    rw [decide_eq_false (show ¬ ((b.length : Int) < (b.length : Int)) by omega), cond_false]
    have : a = b := ext_getD false hl fun i hi => hall i (by omega)
    rw [decide_eq_true this]
  · intro kk i _ _ hi hall
    have g0 : decide (0 ≤ (i : Int)) = true := decide_eq_true (by omega)
    have g1 : decide ((i : Int) < (a.length : Int)) = true := decide_eq_true (by omega)
    have g2 : decide ((i : Int) < (b.length : Int)) = true := decide_eq_true (by omega)
    by_cases he : a.getD i false = b.getD i false
    · left
      refine ⟨(), fun j hj => ?_, ?_⟩
      · by_cases hji : j = i
        · subst hji; exact he
        · exact hall j (by omega)
      · rw [slices_Equal_bool_bool_l4]
        unfold slices_Equal_bool_bool_l4_b
        rw [g2, cond_true, g0, gd_true rfl, g1, gd_true rfl, gd_true rfl, gd_true rfl, Int.toNat_natCast, decide_eq_true he, Bool.not_true, cond_false, wi_1 i (by omega)]
    · right
      have hne : a ≠ b := fun h => he (by rw [h])
      rw [slices_Equal_bool_bool_l4]
      unfold slices_Equal_bool_bool_l4_b
      rw [g2, cond_true, g0, gd_true rfl, g1, gd_true rfl, gd_true rfl, gd_true rfl, Int.toNat_natCast, decide_eq_false he, Bool.not_false, cond_true, decide_eq_false hne]

theorem eqF_ok (kf : Nat) (a b : List (List Int)) (hs : a.length + 300 < kf) (hb : a.length ≤ 100000) (hr : ∀ i, i < a.length → (a.getD i []).length ≤ 256) (K : Bool → Option R) : slices_EqualFunc_int_int_int_int kf a b K = K (decide (a = b)) := by
  unfold slices_EqualFunc_int_int_int_int slices_EqualFunc_int_int_int_int_b
  by_cases hl : a.length = b.length
  rotate_left
  · have hne : a ≠ b := fun h => hl (by rw [h])
    rw [decide_eq_false (show ¬ ((a.length : Int) = (b.length : Int)) by omega), Bool.not_false, cond_true, decide_eq_false hne]
  rw [hl, decide_eq_true rfl, Bool.not_true, cond_false]
  refine loop_inv (fun kk i (_ : Unit) => slices_EqualFunc_int_int_int_int_l4 kf kk b a (b.length : Int) (fun (v8 : Bool) => K v8) (K true) (i : Int)) _ b.length 0 (fun i _ => ∀ j, j < i → a.getD j [] = b.getD j []) ?_ ?_ b.length kf 0 () (by omega) (by omega) (by intro j hj; omega)
  · intro kk _ hall
    rw [slices_EqualFunc_int_int_int_int_l4]
    unfold slices_EqualFunc_int_int_int_int_l4_b
    rw [decide_eq_false (show ¬ ((b.length : Int) < (b.length : Int)) by omega), cond_false]
    have : a = b := ext_getD [] hl fun i hi => hall i (by omega)
    rw [decide_eq_true this]
  · intro kk i _ _ hi hall
    have g0 : decide (0 ≤ (i : Int)) = true := decide_eq_true (by omega)
    have g1 : decide ((i : Int) < (a.length : Int)) = true := decide_eq_true (by omega)
    have g2 : decide ((i : Int) < (b.length : Int)) = true := decide_eq_true (by omega)
    have hri := hr i (by omega)
    by_cases he : a.getD i [] = b.getD i []
    · left
      refine ⟨(), fun j hj => ?_, ?_⟩
      · by_cases hji : j = i
        · subst hji; exact he
        · exact hall j (by omega)
      · rw [slices_EqualFunc_int_int_int_int_l4]
        unfold slices_EqualFunc_int_int_int_int_l4_b machine_Same_1 machine_Same_1_b
        rw [g2, cond_true, g0, gd_true rfl, g1, gd_true rfl, gd_true rfl, gd_true rfl, Int.toNat_natCast, eqI_ok kf _ _ (by omega) (by omega), decide_eq_true he]
        dsimp only
        rw [Bool.not_true, cond_false, wi_1 i (by omega)]
    · right
      have hne : a ≠ b := fun h => he (by rw [h])
      rw [slices_EqualFunc_int_int_int_int_l4]
      unfold slices_EqualFunc_int_int_int_int_l4_b machine_Same_1 machine_Same_1_b
      rw [g2, cond_true, g0, gd_true rfl, g1, gd_true rfl, gd_true rfl, gd_true rfl, Int.toNat_natCast, eqI_ok kf _ _ (by omega) (by omega), decide_eq_false he]
      dsimp only
      rw [Bool.not_false, cond_true, decide_eq_false hne]

variable {C : List Int} {N : List (List Int)} {E : List Bool} {k m : Nat}

theorem same_ok (h : Mch C N E k m) (kf : Nat) (hkf : 3000 ≤ kf) (C' : List Int) (N' : List (List Int)) (E' : List Bool) (K : Bool → Option R) : machine_Same kf C N E C' N' E' K = K (decide (C = C' ∧ E = E' ∧ N = N')) := by
  unfold machine_Same machine_Same_b
  have hE := h.el; have hN := h.nl; have hk2 := h.k2; have hm2 := h.m2
  by_cases h1 : C = C'
  rotate_left
  · rw [decide_eq_false h1, cond_false, decide_eq_false fun q => h1 q.1]
  rw [decide_eq_true h1, cond_true, eqB_ok kf _ _ (by omega) (by omega)]
  by_cases h2 : E = E'
  rotate_left
  · rw [decide_eq_false h2, cond_false, decide_eq_false fun q => h2 q.2.1]
  rw [decide_eq_true h2, cond_true, eqF_ok kf _ _ (by omega) (by omega) fun i hi => by have := (h.row i (by omega)).1; omega]
  by_cases h3 : N = N'
  · rw [decide_eq_true h3, decide_eq_true ⟨h1, h2, h3⟩]
  · rw [decide_eq_false h3, decide_eq_false fun q => h3 q.2.2]

theorem is_ok (h : Mch C N E k m) (kf : Nat) (hkf : 20000 ≤ kf) (K : Bool → Option R) (T : Option R)
    (hT : ∀ (C' : List Int) (N' : List (List Int)) (E' : List Bool) (n' m' : Nat), Canon C' N' E' n' m' → Lang C N E C' N' E' → n' ≤ k → m' ≤ m → K (decide (C' = C ∧ E' = E ∧ N' = N)) = T) : least_Is kf C N E K = T := by
  unfold least_Is least_Is_b
  rw [may_ok h kf (by omega), cond_true]
  refine least_ok h kf hkf _ T fun C' N' E' n' m' hc hL hn hm => ?_
  rw [same_ok hc.mch kf (by omega)]
  exact hT C' N' E' n' m' hc hL hn hm

theorem Lang.refl (C : List Int) (N : List (List Int)) (E : List Bool) : Lang C N E C N E := fun v hv => rfl
theorem Lang.trans {C C' C2 : List Int} {N N' N2 : List (List Int)} {E E' E2 : List Bool} (h : Lang C N E C' N' E') (h' : Lang C' N' E' C2 N2 E2) : Lang C N E C2 N2 E2 := fun v hv => (h v hv).trans (h' v hv)

theorem is_canon {n : Nat} (hc : Canon C N E n m) (kf : Nat) (hkf : 20000 ≤ kf) (K : Bool → Option R) : least_Is kf C N E K = K true := by
  refine is_ok hc.mch kf hkf K _ fun C' N' E' n' m' hc' hL _ _ => ?_
  obtain ⟨h1, h2, h3⟩ := hc'.unique hc hL.symm
  rw [decide_eq_true ⟨h1, h3, h2⟩]

theorem one_of {n : Nat} (hc : Canon C N E n m) (hall : ∀ v, isBy v → en E (dls C N 0 v) = true) : n = 1 := by
  have h1 := hc.mch.k1
  apply Nat.le_antisymm _ h1
  apply Nat.le_of_not_lt
  intro h2
  obtain ⟨wd, w1, _⟩ := hc.ord
  have key : ∀ j, j < n → ∀ v, isBy v → en E (dls C N j v) = true := by
    intro j hj v hv
    obtain ⟨a, b, _⟩ := w1 j hj
    have := hall (wd j ++ v) (by
      intro x hx
      rcases List.mem_append.1 hx with q | q
      · exact a x q
      · exact hv x q)
    rwa [dls_append, b] at this
  have := hc.dist 0 1 (by omega) h2 fun v hv => by rw [key 0 (by omega) v hv, key 1 h2 v hv]
  omega

theorem begun_mch : Mch (List.replicate 256 (0 : Int)) [[1], [0]] [true, true] 2 1 where
  cl := List.length_replicate
  clr := fun b hb => ⟨0, by omega, getD_rep _ _ _⟩
  inh := fun a ha => ⟨0, by omega, by rw [getD_rep]; omega⟩
  nl := rfl
  el := rfl
  k1 := by omega
  k2 := by omega
  m1 := by omega
  m2 := by omega
  row := by
    intro s hs
    match s, hs with
    | 0, _ => exact ⟨rfl, fun a ha => by
        have : a = 0 := by omega
        subst this; exact ⟨1, by omega, rfl⟩⟩
    | 1, _ => exact ⟨rfl, fun a ha => by
        have : a = 0 := by omega
        subst this; exact ⟨0, by omega, rfl⟩⟩

theorem en_tt {s : Nat} (hs : s < 2) : en [true, true] s = true := by
  match s, hs with
  | 0, _ => rfl
  | 1, _ => rfl

theorem begun_ok (kf : Nat) (hkf : 20000 ≤ kf) (K : Bool → Option R) : law12_begun kf K = K true := by
  unfold law12_begun law12_begun_b
  refine least_ok begun_mch kf hkf _ _ fun C N E n m hc hL hn hm => ?_
  have hone : n = 1 := one_of hc fun v hv => by rw [← hL v hv]; exact en_tt (begun_mch.dls_lt (by omega) hv)
  have hnl : N.length = 1 := by rw [hc.mch.nl, hone]
  refine lparts_ok begun_mch kf hkf _ _ fun f l hl hf => ?_
  rw [hnl, decide_eq_true (show ((1 : Nat) : Int) = 1 by omega), cond_true, is_canon hc kf hkf, cond_true]
  refine is_ok begun_mch kf hkf _ _ fun C' N' E' n' m' hc' hL' hn' hm' => ?_
  have hone' : n' = 1 := one_of hc' fun v hv => by rw [← hL' v hv]; exact en_tt (begun_mch.dls_lt (by omega) hv)
  have hnl' : N'.length = 1 := by rw [hc'.mch.nl, hone']
  rw [decide_eq_false (show ¬ (C' = List.replicate 256 (0 : Int) ∧ E' = [true, true] ∧ N' = [[1], [0]]) from fun q => by rw [q.2.2] at hnl'; simp at hnl'), Bool.not_false, cond_true]
  rw [hl.1, decide_eq_true (show ((2 : Nat) : Int) = 2 by omega), cond_true, gdd (by omega), hl.2 1 (by omega)]
  have h0 : f 1 ≤ 0 := (hf 1 (by omega)).2.2 0 (by omega) fun v hv => by
    rw [en_tt (begun_mch.dls_lt (by omega) hv), en_tt (begun_mch.dls_lt (by omega) hv)]
  rw [decide_eq_true (show ((f 1 : Nat) : Int) = 0 by omega)]

/-! ### the reference's question -/
theorem rs4_ok (h : Mch C N E k m) (kf k0 : Nat) (hk : 2500 < k0) (C' : List Int) (N' : List (List Int)) (E' : List Bool) (hl : E.length = E'.length) (Kr Ke : Bool → (List Int) → (List (List Int)) → (List Bool) → (List Int) → (List (List Int)) → (List Bool) → Option R) :
    ref11_Same_l4 kf k0 C N E C' N' E' Kr (Ke true) 0 = if E = E' then Ke true C N E C' N' E' else Kr false C N E C' N' E' := by
  have hE := h.el; have hk2 := h.k2
  refine loop_inv (fun kk i (_ : Unit) => ref11_Same_l4 kf kk C N E C' N' E' Kr (Ke true) (i : Int)) _ E.length 0 (fun i _ => ∀ j, j < i → E.getD j false = E'.getD j false) ?_ ?_ E.length k0 0 () (by omega) (by omega) (by intro j hj; omega)
  · intro kk _ hall
    rw [ref11_Same_l4]
    unfold ref11_Same_l4_b
    rw [decide_eq_false (show ¬ ((E.length : Int) < (E.length : Int)) by omega), cond_false]
    have : E = E' := ext_getD false hl fun i hi => hall i (by omega)
    rw [if_pos this]
  · intro kk i _ _ hi hall
    have g0 : decide (0 ≤ (i : Int)) = true := decide_eq_true (by omega)
    have g1 : decide ((i : Int) < (E.length : Int)) = true := decide_eq_true (by omega)
    have g2 : decide ((i : Int) < (E'.length : Int)) = true := decide_eq_true (by omega)
    by_cases he : E.getD i false = E'.getD i false
    · left
      refine ⟨(), fun j hj => ?_, ?_⟩
      · by_cases hji : j = i
        · subst hji; exact he
        · exact hall j (by omega)
      · rw [ref11_Same_l4]
        unfold ref11_Same_l4_b
        rw [g1, cond_true, g0, gd_true rfl, gd_true rfl, gd_true rfl, g2, gd_true rfl, Int.toNat_natCast, decide_eq_true he, Bool.not_true, cond_false, wi_1 i (by omega)]
    · right
      have hne : E ≠ E' := fun h => he (by rw [h])
      rw [ref11_Same_l4]
      unfold ref11_Same_l4_b
      rw [g1, cond_true, g0, gd_true rfl, gd_true rfl, gd_true rfl, g2, gd_true rfl, Int.toNat_natCast, decide_eq_false he, Bool.not_false, cond_true, if_neg hne]

theorem rs14_ok (h : Mch C N E k m) (kf k0 : Nat) (hk : 256 < k0) (C' : List Int) (N' : List (List Int)) (E' : List Bool) (hl : N.length = N'.length) (s : Nat) (hs : s < k) (hr : (N.getD s []).length = (N'.getD s []).length)
    (Kr : Bool → Int → (List Int) → (List (List Int)) → (List Bool) → (List Int) → (List (List Int)) → (List Bool) → Option R) (Ke : Int → (List Int) → (List (List Int)) → (List Bool) → (List Int) → (List (List Int)) → (List Bool) → Option R) :
    ref11_Same_l14 kf k0 (s : Int) C N E C' N' E' Kr Ke 0 = if N.getD s [] = N'.getD s [] then Ke (s : Int) C N E C' N' E' else Kr false (s : Int) C N E C' N' E' := by
  have hN := h.nl; have hm2 := h.m2; have hrow := (h.row s hs).1
  have s0 : decide (0 ≤ (s : Int)) = true := decide_eq_true (by omega)
  have s1 : decide ((s : Int) < (N.length : Int)) = true := decide_eq_true (by omega)
  have s2 : decide ((s : Int) < (N'.length : Int)) = true := decide_eq_true (by omega)
  refine loop_inv (fun kk i (_ : Unit) => ref11_Same_l14 kf kk (s : Int) C N E C' N' E' Kr Ke (i : Int)) _ (N.getD s []).length 0 (fun i _ => ∀ j, j < i → (N.getD s []).getD j 0 = (N'.getD s []).getD j 0) ?_ ?_ (N.getD s []).length k0 0 () (by omega) (by omega) (by intro j hj; omega)
  · intro kk _ hall
    rw [ref11_Same_l14]
    unfold ref11_Same_l14_b
    rw [s0, gd_true rfl, s1, gd_true rfl, Int.toNat_natCast, decide_eq_false (show ¬ (((N.getD s []).length : Int) < ((N.getD s []).length : Int)) by omega), cond_false]
    have : N.getD s [] = N'.getD s [] := ext_getD 0 hr fun i hi => hall i (by omega)
    rw [if_pos this]
  · intro kk i _ _ hi hall
    have g0 : decide (0 ≤ (i : Int)) = true := decide_eq_true (by omega)
    have g1 : decide ((i : Int) < ((N.getD s []).length : Int)) = true := decide_eq_true (by omega)
    have g2 : decide ((i : Int) < ((N'.getD s []).length : Int)) = true := decide_eq_true (by omega)
    by_cases he : (N.getD s []).getD i 0 = (N'.getD s []).getD i 0
    · left
      refine ⟨(), fun j hj => ?_, ?_⟩
      · by_cases hji : j = i
        · subst hji; exact he
        · exact hall j (by omega)
      · rw [ref11_Same_l14]
        unfold ref11_Same_l14_b
        simp only [s0, gd_true, s1, s2, Int.toNat_natCast, g0, g1, g2, cond_true, decide_eq_true he, Bool.not_true, cond_false, wi_1 i (show i < 4000000000000000000 by omega)]
    · right
      have hne : N.getD s [] ≠ N'.getD s [] := fun h => he (by rw [h])
      rw [ref11_Same_l14]
      unfold ref11_Same_l14_b
      simp only [s0, gd_true, s1, s2, Int.toNat_natCast, g0, g1, g2, cond_true, decide_eq_false he, Bool.not_false, if_neg hne]

theorem rsame_ok (h : Mch C N E k m) (kf : Nat) (hkf : 3000 ≤ kf) (C' : List Int) (N' : List (List Int)) (E' : List Bool) (K : Bool → Option R) : ref11_Same kf C N E C' N' E' K = K (decide (C = C' ∧ E = E' ∧ N = N')) := by
  unfold ref11_Same ref11_Same_b
  have hE := h.el; have hN := h.nl; have hk2 := h.k2; have hm2 := h.m2
  dsimp only
  by_cases h1 : C = C'
  rotate_left
  · rw [decide_eq_false h1, Bool.not_false, cond_true, decide_eq_false fun q => h1 q.1]; rfl
  rw [decide_eq_true h1, Bool.not_true, cond_false]
  by_cases hl : N.length = N'.length
  rotate_left
  · rw [decide_eq_false (show ¬ ((N.length : Int) = (N'.length : Int)) by omega), Bool.not_false, cond_true, decide_eq_false fun q => hl (by rw [q.2.2])]; rfl
  rw [decide_eq_true (show ((N.length : Int) = (N'.length : Int)) by omega), Bool.not_true, cond_false]
  by_cases hle : E.length = E'.length
  rotate_left
  · rw [decide_eq_false (show ¬ ((E.length : Int) = (E'.length : Int)) by omega), Bool.not_false, decide_eq_false fun q => hle (by rw [q.2.1])]; rfl
  rw [decide_eq_true (show ((E.length : Int) = (E'.length : Int)) by omega), Bool.not_true, cond_false]
  refine (rs4_ok h kf kf (by omega) C' N' E' hle (fun v15 _ _ _ _ _ _ => K v15) (fun _ v22 v23 v24 v25 v26 v27 => ref11_Same_l9 kf kf (fun v58 => K v58) (K true) 0 v22 v23 v24 v25 v26 v27)).trans ?_
  by_cases h2 : E = E'
  rotate_left
  · rw [if_neg h2, decide_eq_false fun q => h2 q.2.1]
  rw [if_pos h2]
  refine loop_inv (fun kk s (_ : Unit) => ref11_Same_l9 kf kk (fun v58 => K v58) (K true) (s : Int) C N E C' N' E') _ k 300 (fun i _ => ∀ j, j < i → N.getD j [] = N'.getD j []) ?_ ?_ k kf 0 () (by omega) (by omega) (by intro j hj; omega)
  · intro kk _ hall
    rw [ref11_Same_l9]
    unfold ref11_Same_l9_b
    rw [decide_eq_false (show ¬ ((k : Int) < (N.length : Int)) by omega), cond_false]
    have : N = N' := ext_getD [] hl fun i hi => hall i (by omega)
    rw [decide_eq_true ⟨h1, h2, this⟩]
  · intro kk s _ hkk hs hall
    have s0 : decide (0 ≤ (s : Int)) = true := decide_eq_true (by omega)
    have s1 : decide ((s : Int) < (N.length : Int)) = true := decide_eq_true (by omega)
    have s2 : decide ((s : Int) < (N'.length : Int)) = true := decide_eq_true (by omega)
    have hun : ref11_Same_l9 kf (kk + 1) (fun v58 => K v58) (K true) (s : Int) C N E C' N' E' = bif (!(decide (((N.getD s []).length : Int) = ((N'.getD s []).length : Int)))) then K false else ref11_Same_l14 kf kk (s : Int) C N E C' N' E' (fun v43 _ _ _ _ _ _ _ => K v43) (fun v51 v52 v53 v54 v55 v56 v57 => ref11_Same_l9 kf kk (fun v58 => K v58) (K true) (IntKind.i64.wrap (v51 + 1)) v52 v53 v54 v55 v56 v57) 0 := by
      rw [ref11_Same_l9]
      unfold ref11_Same_l9_b
      rw [s1, cond_true, s0, gd_true rfl, gd_true rfl, gd_true rfl, s2, gd_true rfl, Int.toNat_natCast]
    rw [hun]
    by_cases hr : (N.getD s []).length = (N'.getD s []).length
    rotate_left
    · right
      rw [decide_eq_false (show ¬ (((N.getD s []).length : Int) = ((N'.getD s []).length : Int)) by omega), Bool.not_false, cond_true, decide_eq_false fun q => hr (by rw [q.2.2])]
    have hr' : ((N.getD s []).length : Int) = ((N'.getD s []).length : Int) := by rw [hr]
    rw [decide_eq_true hr', Bool.not_true, cond_false, rs14_ok h kf kk (by omega) C' N' E' hl s hs hr]
    by_cases he : N.getD s [] = N'.getD s []
    · left
      refine ⟨(), fun j hj => ?_, ?_⟩
      · by_cases hji : j = s
        · subst hji; exact he
        · exact hall j (by omega)
      · rw [if_pos he, wi_1 s (by omega)]
    · right
      rw [if_neg he, decide_eq_false fun q => he (by rw [q.2.2])]
end
end Go.Ab.T

/- The laws LeastFlip, LeastRuns, LeastParts. -/
namespace Go.Ab.T
open Go Go.Ab
set_option linter.unusedVariables false
set_option linter.unusedSimpArgs false

section
variable {R : Type} {C : List Int} {N : List (List Int)} {E : List Bool} {k m n : Nat}

theorem Canon.flip (h : Canon C N E n m) : Canon C N (E.map fun b => !b) n m where
  mch := h.mch.flip
  ord := h.ord
  dist := fun i j hi hj he => h.dist i j hi hj fun v hv => by
    have := he v hv
    rw [flip_en h.mch (h.mch.dls_lt hi hv), flip_en h.mch (h.mch.dls_lt hj hv)] at this
    exact Bool.not_inj this
  cls := h.cls
  num := h.num

theorem Lang.flip {C' : List Int} {N' : List (List Int)} {E' : List Bool} {k' m' : Nat} (h : Mch C N E k m) (h' : Mch C' N' E' k' m') (hL : Lang C N E C' N' E') : Lang C N (E.map fun b => !b) C' N' (E'.map fun b => !b) := fun v hv => by
  rw [flip_en h (h.dls_lt h.k1 hv), flip_en h' (h'.dls_lt h'.k1 hv), hL v hv]

theorem flip_law (kf : Nat) (hkf : 20000 ≤ kf) (v1 v2 : Int) (l : List Int) (hn : 0 ≤ v1 ∧ v1 ≤ 255) (hc : 0 ≤ v2 ∧ v2 ≤ 255) (hl : ∀ x ∈ l, 0 ≤ x ∧ x ≤ 255) (K : Bool → Option R) : law12_LeastFlip kf v1 v2 l K = K true := by
  unfold law12_LeastFlip law12_LeastFlip_b
  rw [begun_ok kf hkf, Bool.not_true, cond_false]
  by_cases hlen : 60 < (l.length : Int)
  · rw [decide_eq_true hlen, cond_true]
  rw [decide_eq_false hlen, cond_false]
  refine dfa_ok kf (by omega) v1 v2 hn hc l hl (by omega) _ _ fun C N E k m h hk8 hm4 => ?_
  rw [rflip_ok kf h (by omega)]
  refine least_ok h.flip kf hkf _ _ fun C1 N1 E1 n1 m1 hc1 hL1 _ _ => ?_
  refine least_ok h kf hkf _ _ fun C2 N2 E2 n2 m2 hc2 hL2 _ _ => ?_
  rw [rflip_ok kf hc2.mch (by omega), rsame_ok hc1.mch kf (by omega)]
  obtain ⟨q1, q2, q3⟩ := hc1.unique hc2.flip (hL1.symm.trans (hL2.flip h hc2.mch))
  rw [decide_eq_true ⟨q1, q3, q2⟩]

theorem castNat (l : List Int) (hl : ∀ x ∈ l, 0 ≤ x ∧ x ≤ 255) : ∃ w : List Nat, l = cast w ∧ isBy w ∧ w.length = l.length := by
  refine ⟨l.map Int.toNat, ?_, ?_, by rw [List.length_map]⟩
  · unfold cast
    rw [List.map_map]
    conv => lhs; rw [← List.map_id l]
    apply List.map_congr_left
    intro x hx
    have := hl x hx
    simp only [id, Function.comp_apply]
    omega
  · intro b hb
    obtain ⟨x, hx, rfl⟩ := List.mem_map.1 hb
    have := hl x hx
    omega

theorem runs_law (kf : Nat) (hkf : 20000 ≤ kf) (v1 v2 : Int) (l w : List Int) (hn : 0 ≤ v1 ∧ v1 ≤ 255) (hc : 0 ≤ v2 ∧ v2 ≤ 255) (hl : ∀ x ∈ l, 0 ≤ x ∧ x ≤ 255) (hw : ∀ x ∈ w, 0 ≤ x ∧ x ≤ 255) (K : Bool → Option R) : law12_LeastRuns kf v1 v2 l w K = K true := by
  unfold law12_LeastRuns law12_LeastRuns_b
  rw [begun_ok kf hkf, Bool.not_true, cond_false]
  dsimp only
  by_cases hlen : 60 < (l.length : Int)
  · rw [decide_eq_true hlen]; rfl
  rw [decide_eq_false hlen, cond_false]
  by_cases hlw : 40 < (w.length : Int)
  · rw [decide_eq_true hlw]; rfl
  rw [decide_eq_false hlw, cond_false]
  obtain ⟨w, rfl, hwb, hwl⟩ := castNat w hw
  rw [cast_len] at hlw
  refine dfa_ok kf (by omega) v1 v2 hn hc l hl (by omega) _ _ fun C N E k m h hk8 hm4 => ?_
  refine least_ok h kf hkf _ _ fun C1 N1 E1 n1 m1 hc1 hL1 hn1 hm1 => ?_
  rw [rmay_ok hc1.mch kf (by omega), cond_true, rrun_ok hc1.mch kf (by omega) w hwb (by omega), rrun_ok h kf (by omega) w hwb (by omega), hL1 w hwb, decide_eq_true rfl, cond_true,
    decide_eq_true (show (N1.length : Int) ≤ (N.length : Int) by rw [hc1.mch.nl, h.nl]; omega), cond_true, rclasses_ok hc1.mch kf (by omega), rclasses_ok h kf (by omega),
    decide_eq_true (show (m1 : Int) ≤ (m : Int) by omega), cond_true, is_canon hc1 kf hkf, cond_true]
  refine least_ok hc1.mch kf hkf _ _ fun C2 N2 E2 n2 m2 hc2 hL2 _ _ => ?_
  rw [rsame_ok hc2.mch kf (by omega)]
  obtain ⟨q1, q2, q3⟩ := hc2.unique hc1 hL2.symm
  rw [decide_eq_true ⟨q1, q3, q2⟩]

/-- alike states lead to alike ones, class by class -/
theorem eqs_row (h : Mch C N E k m) {s t a : Nat} (hst : eqs C N E s t) (ha : a < m) : eqs C N E (rowN N s a) (rowN N t a) := by
  obtain ⟨b, hb, he⟩ := h.inh a ha
  have := eqs_step hst hb
  unfold dl at this
  rw [he] at this
  exact this

theorem eqs_symm {s t : Nat} (h : eqs C N E s t) : eqs C N E t s := fun v hv => (h v hv).symm
theorem eqs_trans {s t u : Nat} (h : eqs C N E s t) (h' : eqs C N E t u) : eqs C N E s u := fun v hv => (h v hv).trans (h' v hv)

theorem p16_ok (h : Mch C N E k m) (kf k0 : Nat) (hk : 256 < k0) (f : Nat → Nat) (l : List Int) (hl : PL k f l) (s p : Nat) (hs : s < k) (hp : p < k) (hf : ∀ a, a < m → f (rowN N s a) = f (rowN N p a))
    (Kr : Bool → Int → (List Int) → (List Int) → (List (List Int)) → (List Bool) → Option R) (Ke : Int → (List Int) → (List Int) → (List (List Int)) → (List Bool) → Option R) :
    law12_LeastParts_l16 kf k0 (s : Int) (p : Int) C l N E Kr Ke 0 = Ke (s : Int) C l N E := by
  have hN := h.nl; have hm2 := h.m2; obtain ⟨hrow, hrs⟩ := h.row s hs; obtain ⟨hrowp, hrp⟩ := h.row p hp
  have hl1 := hl.1
  have s0 : decide (0 ≤ (s : Int)) = true := decide_eq_true (by omega)
  have s1 : decide ((s : Int) < (N.length : Int)) = true := decide_eq_true (by omega)
  have p0 : decide (0 ≤ (p : Int)) = true := decide_eq_true (by omega)
  have p1 : decide ((p : Int) < (N.length : Int)) = true := decide_eq_true (by omega)
  refine loop_inv (fun kk i (_ : Unit) => law12_LeastParts_l16 kf kk (s : Int) (p : Int) C l N E Kr Ke (i : Int)) _ m 0 (fun i _ => True) ?_ ?_ m k0 0 () (by omega) (by omega) trivial
  · intro kk _ _
    rw [law12_LeastParts_l16]
    unfold law12_LeastParts_l16_b
    rw [s0, gd_true rfl, s1, gd_true rfl, Int.toNat_natCast, decide_eq_false (show ¬ ((m : Int) < ((N.getD s []).length : Int)) by rw [hrow]; omega), cond_false]
  · intro kk a _ _ ha _
    left
    refine ⟨(), trivial, ?_⟩
    have g0 : decide (0 ≤ (a : Int)) = true := decide_eq_true (by omega)
    have g1 : decide ((a : Int) < ((N.getD s []).length : Int)) = true := decide_eq_true (by rw [hrow]; omega)
    have g2 : decide ((a : Int) < ((N.getD p []).length : Int)) = true := decide_eq_true (by rw [hrowp]; omega)
    obtain ⟨x, hx, hxe⟩ := hrs a ha
    obtain ⟨y, hy, hye⟩ := hrp a ha
    have x0 : decide (0 ≤ (x : Int)) = true := decide_eq_true (by omega)
    have x1 : decide ((x : Int) < (l.length : Int)) = true := decide_eq_true (by omega)
    have y0 : decide (0 ≤ (y : Int)) = true := decide_eq_true (by omega)
    have y1 : decide ((y : Int) < (l.length : Int)) = true := decide_eq_true (by omega)
    have hxy : l.getD x 0 = l.getD y 0 := by
      rw [hl.2 x hx, hl.2 y hy]
      have := hf a ha
      unfold rowN at this
      rw [hxe, hye, Int.toNat_natCast, Int.toNat_natCast] at this
      rw [this]
    rw [law12_LeastParts_l16]
    unfold law12_LeastParts_l16_b
    rw [s0, gd_true rfl, s1, gd_true rfl, Int.toNat_natCast, Int.toNat_natCast, Int.toNat_natCast, g1, cond_true, gd_true rfl, gd_true rfl, g0, gd_true rfl, gd_true rfl, hxe, hye, x0, gd_true rfl, x1, gd_true rfl, p0, gd_true rfl, p1, gd_true rfl, gd_true rfl, g2, gd_true rfl, y0, gd_true rfl, y1, gd_true rfl,
      Int.toNat_natCast, Int.toNat_natCast, decide_eq_true hxy, Bool.not_true, cond_false, wi_1 a (by omega)]

theorem parts_law (kf : Nat) (hkf : 20000 ≤ kf) (v1 v2 : Int) (l : List Int) (hn : 0 ≤ v1 ∧ v1 ≤ 255) (hc : 0 ≤ v2 ∧ v2 ≤ 255) (hl : ∀ x ∈ l, 0 ≤ x ∧ x ≤ 255) (K : Bool → Option R) : law12_LeastParts kf v1 v2 l K = K true := by
  unfold law12_LeastParts law12_LeastParts_b
  rw [begun_ok kf hkf, Bool.not_true, cond_false]
  by_cases hlen : 60 < (l.length : Int)
  · rw [decide_eq_true hlen, cond_true]
  rw [decide_eq_false hlen, cond_false]
  refine dfa_ok kf (by omega) v1 v2 hn hc l hl (by omega) _ _ fun C N E k m h hk8 hm4 => ?_
  refine lparts_ok h kf hkf _ _ fun f l hl hf => ?_
  have hN := h.nl; have hE := h.el; have hl1 := hl.1
  rw [decide_eq_true (show (l.length : Int) = (N.length : Int) by omega), Bool.not_true, cond_false]
  refine loop_inv (fun kk s (_ : Unit) => law12_LeastParts_l10 kf kk (fun v34 => K v34) (K true) (s : Int) C l N E) _ k 300 (fun i _ => True) ?_ ?_ k kf 0 () (by omega) (by omega) trivial
  · intro kk _ _
    rw [law12_LeastParts_l10]
    unfold law12_LeastParts_l10_b
    rw [decide_eq_false (show ¬ ((k : Int) < (l.length : Int)) by omega), cond_false]
  · intro kk s _ hkk hs _
    left
    refine ⟨(), trivial, ?_⟩
    obtain ⟨f1, f2, f3⟩ := hf s hs
    have hp : f s < k := by omega
    have ff : f (f s) = f s := by
      obtain ⟨g1, g2, g3⟩ := hf (f s) hp
      have := f3 (f (f s)) (by omega) (eqs_trans g2 f2)
      omega
    have fe : ∀ x y, x < k → y < k → eqs C N E x y → f x = f y := by
      intro x y hx hy hxy
      obtain ⟨a1, a2, a3⟩ := hf x hx
      obtain ⟨b1, b2, b3⟩ := hf y hy
      have c1 := a3 (f y) (by omega) (eqs_trans b2 (eqs_symm hxy))
      have c2 := b3 (f x) (by omega) (eqs_trans a2 hxy)
      omega
    have hends : E.getD (f s) false = E.getD s false := f2 [] (by intro b hb; cases hb)
    have hlp : l.getD (f s) 0 = ((f s : Nat) : Int) := by rw [hl.2 _ hp, ff]
    rw [law12_LeastParts_l10]
    unfold law12_LeastParts_l10_b
    dsimp only
    rw [decide_eq_true (show (s : Int) < (l.length : Int) by omega), cond_true, gdd (by omega), gd_true rfl, Int.toNat_natCast, hl.2 s hs, decide_eq_false (show ¬ (((f s : Nat) : Int) < 0) by omega), cond_false, decide_eq_false (show ¬ ((s : Int) < ((f s : Nat) : Int)) by omega), cond_false,
      gdd (by omega), gdd (by omega), Int.toNat_natCast, hlp, decide_eq_true rfl, Bool.not_true, cond_false, gdd (by omega), gdd (by omega), gdd (by omega), gdd (by omega), hends, decide_eq_true rfl, Bool.not_true, cond_false]
    refine (p16_ok h kf kk (by omega) f l hl s (f s) hs hp (fun a ha => fe _ _ (h.row_lt hs ha).1 (h.row_lt hp ha).1 (eqs_row h (eqs_symm f2) ha)) _ _).trans ?_
    rw [wi_1 s (by omega)]
end
end Go.Ab.T

/- The law LeastTurned: states that go around. -/
namespace Go.Ab.T
open Go Go.Ab
set_option linter.unusedVariables false
set_option linter.unusedSimpArgs false

/-- where a state goes -/
def tp (k by_ s : Nat) : Nat := if s = 0 then 0 else if s - 1 + by_ < k - 1 then s + by_ else s + by_ - (k - 1)
theorem tp_lt {k y s : Nat} (hk : 3 ≤ k) (hy : y < k - 1) (hs : s < k) : tp k y s < k := by
  unfold tp
  split
  · omega
  · split <;> omega
theorem tp_inj {k y s t : Nat} (hk : 3 ≤ k) (hy : y < k - 1) (hs : s < k) (ht : t < k) (h : tp k y s = tp k y t) : s = t := by
  unfold tp at h
  split at h <;> split at h <;> (try split at h) <;> (try split at h) <;> omega
theorem tp_sur {k y j : Nat} (hk : 3 ≤ k) (hy : y < k - 1) (hj : j < k) : ∃ s, s < k ∧ tp k y s = j := by
  by_cases h0 : j = 0
  · exact ⟨0, by omega, by unfold tp; rw [if_pos rfl]; omega⟩
  · by_cases h1 : y < j
    · refine ⟨j - y, by omega, ?_⟩
      unfold tp
      rw [if_neg (by omega), if_pos (by omega)]; omega
    · refine ⟨j + (k - 1) - y, by omega, ?_⟩
      unfold tp
      rw [if_neg (by omega), if_neg (by omega)]; omega

section
variable {R : Type} {C : List Int} {N : List (List Int)} {E : List Bool} {k m n : Nat}

theorem moved_ok (y s : Nat) (hk : 3 ≤ k) (hk2 : k ≤ 2000) (hy : y < k - 1) (hs : s < k) (K : Int → Option R) : law12_moved (s : Int) (y : Int) ((k - 1 : Nat) : Int) K = K ((tp k y s : Nat) : Int) := by
  unfold law12_moved law12_moved_b
  by_cases h0 : s = 0
  · subst h0
    rw [decide_eq_true (by omega), cond_true]; unfold tp; rw [if_pos rfl]; rfl
  rw [decide_eq_false (by omega), cond_false, gdd (by omega)]
  dsimp only
  have e1 : IntKind.i64.wrap ((s : Int) - 1) = ((s - 1 : Nat) : Int) := by rw [IntKind.wrap_i64]; omega
  have e2 : IntKind.i64.wrap (((s - 1 : Nat) : Int) + (y : Int)) = ((s - 1 + y : Nat) : Int) := by rw [IntKind.wrap_i64]; omega
  rw [e1, e2, ← Int.ofNat_tmod]
  have e3 : (s - 1 + y) % (k - 1) = if s - 1 + y < k - 1 then s - 1 + y else s - 1 + y - (k - 1) := by
    split
    · exact Nat.mod_eq_of_lt (by assumption)
    · rw [Nat.mod_eq_sub_mod (by omega), Nat.mod_eq_of_lt (by omega)]
  have e4 : IntKind.i64.wrap (1 + (((s - 1 + y) % (k - 1) : Nat) : Int)) = ((tp k y s : Nat) : Int) := by
    rw [e3, IntKind.wrap_i64]
    unfold tp
    rw [if_neg h0]
    split <;> omega
  rw [e4]

def rowM (N : List (List Int)) (k y s a : Nat) : List Int := (List.range a).map fun a => ((tp k y (rowN N s a) : Nat) : Int)
theorem rowM_len (N : List (List Int)) (k y s a : Nat) : (rowM N k y s a).length = a := by unfold rowM; simp
theorem rowM_getD (N : List (List Int)) (k y s a i : Nat) (h : i < a) : (rowM N k y s a).getD i 0 = ((tp k y (rowN N s i) : Nat) : Int) := by
  unfold rowM
  rw [List.getD_eq_getElem?_getD, List.getElem?_map, List.getElem?_range h]; rfl

theorem t17_ok (h : Mch C N E k m) (kf k0 : Nat) (hk0 : 256 < k0) (hk : 3 ≤ k) (y s : Nat) (hy : y < k - 1) (hs : s < k) (v20 : Int) (C1 C2 : List Int) (N2 : List (List Int)) (E2 : List Bool)
    (Ke : Int → Int → Int → Int → (List Int) → (List Int) → (List Int) → (List (List Int)) → (List Bool) → (List (List Int)) → (List Bool) → Option R) :
    law12_LeastTurned_l17 kf k0 v20 ((k - 1 : Nat) : Int) (y : Int) (s : Int) C1 C2 N E N2 E2 Ke 0 [] = Ke v20 ((k - 1 : Nat) : Int) (y : Int) (s : Int) C1 C2 (rowM N k y s m) N E N2 E2 := by
  have hN := h.nl; have hm2 := h.m2; have hk2 := h.k2; obtain ⟨hrow, hrs⟩ := h.row s hs
  have s0 : decide (0 ≤ (s : Int)) = true := decide_eq_true (by omega)
  have s1 : decide ((s : Int) < (N.length : Int)) = true := decide_eq_true (by omega)
  refine loop_inv (fun kk i (acc : List Int) => law12_LeastTurned_l17 kf kk v20 ((k - 1 : Nat) : Int) (y : Int) (s : Int) C1 C2 N E N2 E2 Ke (i : Int) acc) _ m 0 (fun i acc => acc = rowM N k y s i) ?_ ?_ m k0 0 [] (by omega) (by omega) rfl
  · rintro kk acc rfl
    rw [law12_LeastTurned_l17]
    unfold law12_LeastTurned_l17_b
    rw [s0, gd_true rfl, s1, gd_true rfl, Int.toNat_natCast, decide_eq_false (show ¬ ((m : Int) < ((N.getD s []).length : Int)) by rw [hrow]; omega), cond_false]
  · rintro kk a acc _ ha rfl
    left
    refine ⟨_, rfl, ?_⟩
    have g0 : decide (0 ≤ (a : Int)) = true := decide_eq_true (by omega)
    have g1 : decide ((a : Int) < ((N.getD s []).length : Int)) = true := decide_eq_true (by rw [hrow]; omega)
    obtain ⟨x, hx, hxe⟩ := hrs a ha
    have hx2 : rowN N s a = x := by unfold rowN; rw [hxe, Int.toNat_natCast]
    rw [law12_LeastTurned_l17]
    unfold law12_LeastTurned_l17_b
    rw [s0, gd_true rfl, s1, gd_true rfl, Int.toNat_natCast, Int.toNat_natCast, g1, cond_true, gd_true rfl, gd_true rfl, g0, gd_true rfl, gd_true rfl, hxe, moved_ok y x hk hk2 hy hx,
      gdd (by rw [rowM_len, small_eq]; simp; omega), wi_1 a (by omega)]
    congr 1
    unfold rowM
    rw [List.range_succ, List.map_append, List.map_cons, List.map_nil, hx2]

/-- the machine so far -/
structure Tn (C : List Int) (N : List (List Int)) (E : List Bool) (k m y i : Nat) (N2 : List (List Int)) (E2 : List Bool) : Prop where
  nl : N2.length = k
  el : E2.length = k
  row : ∀ s, s < i → N2.getD (tp k y s) [] = rowM N k y s m ∧ E2.getD (tp k y s) false = E.getD s false

theorem Tn.mch {y : Nat} {N2 : List (List Int)} {E2 : List Bool} (h : Mch C N E k m) (hk : 3 ≤ k) (hy : y < k - 1) (ht : Tn C N E k m y k N2 E2) : Mch C N2 E2 k m where
  cl := h.cl
  clr := h.clr
  inh := h.inh
  nl := ht.nl
  el := ht.el
  k1 := h.k1
  k2 := h.k2
  m1 := h.m1
  m2 := h.m2
  row := by
    intro j hj
    obtain ⟨s, hs, rfl⟩ := tp_sur hk hy hj
    rw [(ht.row s hs).1]
    exact ⟨rowM_len _ _ _ _ _, fun a ha => ⟨_, tp_lt hk hy (h.row_lt hs ha).1, rowM_getD _ _ _ _ _ _ ha⟩⟩

theorem Tn.goes {y : Nat} {N2 : List (List Int)} {E2 : List Bool} (h : Mch C N E k m) (hk : 3 ≤ k) (hy : y < k - 1) (ht : Tn C N E k m y k N2 E2) :
    ∀ (v : List Nat) (s : Nat), s < k → isBy v → dls C N2 (tp k y s) v = tp k y (dls C N s v)
  | [], s, hs, hv => rfl
  | b :: r, s, hs, hv => by
    have hb : b < 256 := hv b (List.mem_cons_self ..)
    have hr : isBy r := fun x hx => hv x (List.mem_cons_of_mem _ hx)
    have h1 : dl C N2 (tp k y s) b = tp k y (dl C N s b) := by
      unfold dl
      rw [(ht.row s hs).1, rowM_getD _ _ _ _ _ _ (h.cls_lt b hb).1, Int.toNat_natCast]
      rfl
    show dls C N2 (dl C N2 (tp k y s) b) r = tp k y (dls C N (dl C N s b) r)
    rw [h1]
    exact Tn.goes h hk hy ht r _ (h.dl_lt hs hb) hr

theorem Tn.lang {y : Nat} {N2 : List (List Int)} {E2 : List Bool} (h : Mch C N E k m) (hk : 3 ≤ k) (hy : y < k - 1) (ht : Tn C N E k m y k N2 E2) : Lang C N E C N2 E2 := fun v hv => by
  have h0 : tp k y 0 = 0 := by unfold tp; rw [if_pos rfl]
  have := Tn.goes h hk hy ht v 0 (by omega) hv
  rw [h0] at this
  rw [this]
  unfold en
  rw [(ht.row _ (h.dls_lt h.k1 hv)).2]

theorem Tn.step {y i : Nat} {N2 : List (List Int)} {E2 : List Bool} (hk : 3 ≤ k) (hy : y < k - 1) (ht : Tn C N E k m y i N2 E2) (hi : i < k) : Tn C N E k m y (i + 1) (N2.set (tp k y i) (rowM N k y i m)) (E2.set (tp k y i) (E.getD i false)) where
  nl := by rw [List.length_set]; exact ht.nl
  el := by rw [List.length_set]; exact ht.el
  row := by
    intro s hs
    have hlt := tp_lt hk hy hi
    rw [getD_set', getD_set']
    by_cases hsi : s = i
    · subst hsi
      rw [if_pos ⟨rfl, by rw [ht.nl]; exact hlt⟩, if_pos ⟨rfl, by rw [ht.el]; exact hlt⟩]
      exact ⟨rfl, rfl⟩
    · have hne : ¬ tp k y i = tp k y s := fun h => hsi (tp_inj hk hy (by omega) (by omega) h.symm)
      rw [if_neg (fun q => hne q.1), if_neg (fun q => hne q.1)]
      exact ht.row s (by omega)

theorem turned_law (kf : Nat) (hkf : 20000 ≤ kf) (v1 v2 : Int) (l : List Int) (v4 : Int) (hn : 0 ≤ v1 ∧ v1 ≤ 255) (hc : 0 ≤ v2 ∧ v2 ≤ 255) (hl : ∀ x ∈ l, 0 ≤ x ∧ x ≤ 255) (h4 : 0 ≤ v4 ∧ v4 ≤ 255) (K : Bool → Option R) : law12_LeastTurned kf v1 v2 l v4 K = K true := by
  unfold law12_LeastTurned law12_LeastTurned_b
  rw [begun_ok kf hkf, Bool.not_true, cond_false]
  by_cases hlen : 60 < (l.length : Int)
  · rw [decide_eq_true hlen, cond_true]
  rw [decide_eq_false hlen, cond_false]
  refine dfa_ok kf (by omega) v1 v2 hn hc l hl (by omega) _ _ fun C N E k m h hk8 hm4 => ?_
  have hN := h.nl; have hE := h.el
  rw [hN]
  by_cases hk3 : (k : Int) < 3
  · rw [decide_eq_true hk3, cond_true]
  rw [decide_eq_false hk3, cond_false]
  have hk : 3 ≤ k := by omega
  have e1 : IntKind.i64.wrap ((k : Int) - 1) = ((k - 1 : Nat) : Int) := by rw [IntKind.wrap_i64]; omega
  have e2 : IntKind.i64.wrap v4 = v4 := by rw [IntKind.wrap_i64]; omega
  obtain ⟨t, rfl⟩ := Int.eq_ofNat_of_zero_le h4.1
  have e3 : IntKind.i64.wrap ((k - 1 : Nat) : Int) = ((k - 1 : Nat) : Int) := wi_n _ (by omega)
  have hy : t % (k - 1) < k - 1 := Nat.mod_lt _ (by omega)
  rw [e1, gdd (by omega), e2]
  dsimp only
  rw [← Int.ofNat_tmod]
  generalize t % (k - 1) = y at hy ⊢
  rw [gdd (by omega), gdd (by omega), gdd (by rw [small_eq]; omega), gdd (by omega), gdd (by omega), gdd (by rw [small_eq]; omega), Int.toNat_natCast]
  generalize hK : (fun (v46 : (List Int)) (v47 : (List Int)) (v48 : (List (List Int))) (v49 : (List Bool)) (v50 : (List (List Int))) (v51 : (List Bool)) =>
                 least_Least kf v47 v50 v51 (fun (v52 : (List Int)) (v53 : (List (List Int))) (v54 : (List Bool)) =>
                  least_Least kf v46 v48 v49 (fun (v55 : (List Int)) (v56 : (List (List Int))) (v57 : (List Bool)) =>
                   ref11_Same kf v52 v53 v54 v55 v56 v57 (fun (v58 : Bool) =>
                    K v58)))) = KK
  refine loop_inv (fun kk i (acc : List (List Int) × List Bool) => law12_LeastTurned_l13 kf kk KK (k : Int) ((k - 1 : Nat) : Int) (y : Int) (i : Int) C C N E acc.1 acc.2) _ k 300 (fun i acc => Tn C N E k m y i acc.1 acc.2) ?_ ?_ k kf 0 (List.replicate k [], List.replicate k false) (by omega) (by omega) ⟨List.length_replicate, List.length_replicate, fun s hs => by omega⟩
  · rintro kk ⟨N2, E2⟩ ht
    dsimp only at ht ⊢
    rw [law12_LeastTurned_l13]
    unfold law12_LeastTurned_l13_b
    rw [decide_eq_false (show ¬ ((k : Int) < (k : Int)) by omega), cond_false, ← hK]
    dsimp only
    refine least_ok (ht.mch h hk hy) kf hkf _ _ fun C1 N1 E1 n1 m1 hc1 hL1 _ _ => ?_
    refine least_ok h kf hkf _ _ fun C3 N3 E3 n3 m3 hc3 hL3 _ _ => ?_
    rw [rsame_ok hc1.mch kf (by omega)]
    obtain ⟨q1, q2, q3⟩ := hc1.unique hc3 (hL1.symm.trans ((ht.lang h hk hy).symm.trans hL3))
    rw [decide_eq_true ⟨q1, q3, q2⟩]
  · rintro kk i ⟨N2, E2⟩ hkk hi ht
    left
    refine ⟨(N2.set (tp k y i) (rowM N k y i m), E2.set (tp k y i) (E.getD i false)), ht.step hk hy hi, ?_⟩
    dsimp only at ht ⊢
    have hlt := tp_lt hk hy hi
    have hk2 := h.k2
    rw [law12_LeastTurned_l13]
    unfold law12_LeastTurned_l13_b
    rw [decide_eq_true (show (i : Int) < (k : Int) by omega), cond_true, t17_ok h kf kk (by omega) hk y i hy hi, moved_ok y i hk hk2 hy hi, moved_ok y i hk hk2 hy hi,
      gdd (by omega), gdd (by omega), gdd (by omega), gdd (by rw [ht.nl]; omega), gdd (by omega), gdd (by rw [ht.el]; omega), Int.toNat_natCast, Int.toNat_natCast, wi_1 i (by omega)]
end
end Go.Ab.T
