/- ImG1: a part of the proofs of this seat's statements. -/
import Derived.Test.YtdoaclnnkeonkaaDoorImaTA
import Derived.Laws.BitsLemmas
import Derived.Laws.BitsAllLaws
/- Plain lemmas of loops and lists. -/
namespace Go.Ab.T
theorem loop_inv {α R : Type} (L : Nat → Nat → α → R) (T : R) (n B : Nat) (I : Nat → α → Prop)
  (hexit : ∀ k acc, I n acc → L (k + 1) n acc = T)
  (hstep : ∀ k c acc, B ≤ k → c < n → I c acc → (∃ acc', I (c + 1) acc' ∧ L (k + 1) c acc = L k (c + 1) acc') ∨ L (k + 1) c acc = T) :
  ∀ m k c acc, c + m = n → m + B < k → I c acc → L k c acc = T
 | m, 0, c, acc, _, h, _ => by omega
 | 0, k + 1, c, acc, hc, h, hi => by
  have : c = n := by omega
  subst this
  exact hexit k acc hi
 | m + 1, k + 1, c, acc, hc, h, hi => by
  rcases hstep k c acc (by omega) (by omega) hi with ⟨acc', h1, h2⟩ | h1
  ·rw [h2]
   exact loop_inv L T n B I hexit hstep m k (c + 1) acc' (by omega) (by omega) h1
  ·exact h1
theorem loop_all {α R : Type} (L : Nat → Nat → α → R) (T : R) (n B : Nat) (I : Nat → α → Prop)
  (hexit : ∀ k acc, I n acc → L (k + 1) n acc = T)
  (hstep : ∀ k c acc, B ≤ k → c < n → I c acc → (∀ acc', I (c + 1) acc' → L k (c + 1) acc' = T) → L (k + 1) c acc = T) :
  ∀ m k c acc, c + m = n → m + B < k → I c acc → L k c acc = T
 | m, 0, c, acc, _, h, _ => by omega
 | 0, k + 1, c, acc, hc, h, hi => by
  have : c = n := by omega
  subst this
  exact hexit k acc hi
 | m + 1, k + 1, c, acc, hc, h, hi =>
  hstep k c acc (by omega) (by omega) hi fun acc' h' => loop_all L T n B I hexit hstep m k (c + 1) acc' (by omega) (by omega) h'
theorem loop_meas {α R : Type} (L : Nat → α → R) (T : R) (μ : α → Nat) (B : Nat) (I : α → Prop)
  (hstep : ∀ k acc, B ≤ k → I acc → (∀ acc', I acc' → μ acc' < μ acc → L k acc' = T) → L (k + 1) acc = T) :
  ∀ k acc, μ acc + B < k → I acc → L k acc = T
 | 0, acc, h, _ => by omega
 | k + 1, acc, h, hi => hstep k acc (by omega) hi fun acc' h' hm => loop_meas L T μ B I hstep k acc' (by omega) h'
theorem getD_mem {α : Type} (l : List α) (c : Nat) (h : c < l.length) (d : α) : l.getD c d ∈ l := by
 rw [List.getD_eq_getElem?_getD, List.getElem?_eq_getElem h]
 exact List.getElem_mem h
end Go.Ab.T

/- Machines: which may be, how many classes they have, and which are made of numbers. -/
namespace Go.Ab.T
open Go Go.Ab
set_option linter.unusedVariables false
set_option linter.unusedSimpArgs false
theorem gd_true {R : Type} {b : Bool} (h : b = true) (x : Option R) : gd b x = x := by subst h; rfl
theorem gdd {R : Type} {p : Prop} [Decidable p] (h : p) (x : Option R) : gd (decide p) x = x := gd_true (decide_eq_true h) x
theorem wi_n (n : Nat) (h : n < 4000000000000000000) : IntKind.i64.wrap (n : Int) = (n : Int) := by rw [IntKind.wrap_i64]; omega
theorem wi_1 (n : Nat) (h : n < 4000000000000000000) : IntKind.i64.wrap ((n : Int) + 1) = ((n + 1 : Nat) : Int) := by rw [IntKind.wrap_i64]; omega
theorem small_eq : (SMALL : Nat) = 17179869184 := rfl
def gapless (C : List Int) : Prop := ∀ a b : Nat, b < 256 → (a : Int) ≤ C.getD b 0 → ∃ b', b' < 256 ∧ C.getD b' 0 = (a : Int)
structure Mch (C : List Int) (N : List (List Int)) (E : List Bool) (k m : Nat) : Prop where
 cl : C.length = 256
 clr : ∀ b, b < 256 → ∃ a : Nat, a < m ∧ C.getD b 0 = (a : Int)
 top : ∃ b, b < 256 ∧ C.getD b 0 = ((m - 1 : Nat) : Int)
 nl : N.length = k
 el : E.length = k
 k1 : 1 ≤ k
 k2 : k ≤ 2000
 m1 : 1 ≤ m
 m2 : m ≤ 256
 row : ∀ s, s < k → (N.getD s []).length = m ∧ ∀ a, a < m → ∃ t : Nat, t < k ∧ (N.getD s []).getD a 0 = (t : Int)
def mxTo (C : List Int) : Nat → Int
 | 0 => C.getD 0 0
 | c + 1 => mx (mxTo C c) (C.getD (c + 1) 0)
section
variable {R : Type} {C : List Int} {N : List (List Int)} {E : List Bool} {k m : Nat}
theorem Mch.inh (h : Mch C N E k m) (hg : gapless C) : ∀ a, a < m → ∃ b, b < 256 ∧ C.getD b 0 = (a : Int) := by
 intro a ha
 obtain ⟨b, h1, h2⟩ := h.top
 exact hg a b h1 (by omega)
theorem gapless_of (h : ∀ b, b < 256 → ∃ a : Nat, a < m ∧ C.getD b 0 = (a : Int)) (hi : ∀ a, a < m → ∃ b, b < 256 ∧ C.getD b 0 = (a : Int)) : gapless C := by
 intro a b hb hab
 obtain ⟨c, c1, c2⟩ := h b hb
 exact hi a (by omega)
theorem Mch.mx_le (h : Mch C N E k m) : ∀ c, c < 256 → 0 ≤ mxTo C c ∧ mxTo C c ≤ ((m - 1 : Nat) : Int) ∧ ∀ b, b ≤ c → C.getD b 0 ≤ mxTo C c := by
 intro c
 induction c with
 | zero =>
  intro hc
  obtain ⟨a, h1, h2⟩ := h.clr 0 hc
  refine ⟨by simp only [mxTo]; omega, by simp only [mxTo]; omega, fun b hb => ?_⟩
  have : b = 0 := by omega
  subst this; exact Int.le_refl _
 | succ c ih =>
  intro hc
  obtain ⟨a, h1, h2⟩ := h.clr (c + 1) hc
  obtain ⟨q1, q2, q3⟩ := ih (by omega)
  simp only [mxTo, mx]
  refine ⟨by split <;> omega, by split <;> omega, fun b hb => ?_⟩
  by_cases hbc : b = c + 1
  ·subst hbc; split <;> omega
  ·have := q3 b (by omega)
   split <;> omega
theorem Mch.mx_eq (h : Mch C N E k m) : mxTo C 255 = ((m - 1 : Nat) : Int) := by
 obtain ⟨q1, q2, q3⟩ := h.mx_le 255 (by omega)
 have hm1 := h.m1
 obtain ⟨b, h1, h2⟩ := h.top
 have := q3 b (by omega)
 omega
theorem max_ok (h : Mch C N E k m) (kf : Nat) (hkf : 3000 ≤ kf) (K : Int → Option R) : yy40 kf C K = K ((m - 1 : Nat) : Int) := by
 unfold yy40 yy40_b
 have hl := h.cl
 rw [decide_eq_false (show ¬ ((C.length : Int) < 1) by omega)]
 simp only [cond_false]
 rw [gdd (by omega)]
 refine loop_inv (fun kk c acc => yy40_l5 kf kk C (fun v5 => K v5) acc (c : Int)) _ 256 0 (fun c acc => 1 ≤ c ∧ acc = mxTo C (c - 1)) ?_ ?_ 255 kf 1 (C.getD 0 0) (by omega) (by omega) ⟨by omega, rfl⟩
 ·rintro kk acc ⟨_, rfl⟩
  have hd : decide (((256 : Nat) : Int) < (C.length : Int)) = false := decide_eq_false (by omega)
  simp only [yy40_l5, yy40_l5_b, hd, cond_false]
  rw [h.mx_eq]
 ·rintro kk c acc _ hc ⟨h1, rfl⟩
  left
  have hd : decide ((c : Int) < (C.length : Int)) = true := decide_eq_true (by omega)
  have g1 : decide (0 ≤ (c : Int)) = true := decide_eq_true (by omega)
  refine ⟨mx (mxTo C (c - 1)) (C.getD c 0), ⟨by omega, ?_⟩, ?_⟩
  ·obtain ⟨d, rfl⟩ : ∃ d, c = d + 1 := ⟨c - 1, by omega⟩
   rfl
  ·simp only [yy40_l5, yy40_l5_b, hd, g1, gd, cond_true, Int.toNat_natCast, wi_1 c (show c < 4000000000000000000 by omega)]
theorem classes_ok (h : Mch C N E k m) (kf : Nat) (hkf : 3000 ≤ kf) (K : Int → Option R) : yy22 kf C N E K = K (m : Int) := by
 unfold yy22 yy22_b
 rw [max_ok h kf hkf]
 have := h.m1; have := h.m2
 have e : IntKind.i64.wrap (IntKind.i64.wrap ((m - 1 : Nat) : Int) + 1) = (m : Int) := by
  simp only [IntKind.wrap_i64]; omega
 rw [e]
theorem contains_ok (kf : Nat) (hkf : 3000 ≤ kf) (l : List Int) (hl : l.length ≤ 256) (hr : ∀ a, a < l.length → ∃ t : Nat, t < k ∧ l.getD a 0 = (t : Int)) (K : Bool → Int → Option R) :
  yy34 kf l (k : Int) K = K false (k : Int) := by
 unfold yy34 yy34_b yy39 yy39_b
 refine loop_inv (fun kk c (_ : Unit) => yy39_l2 kf kk l (l.length : Int) (fun (v9 : Int) (v10 : Int) => K (decide (0 ≤ v9)) v10) (fun (v11 : Int) => K (decide (0 ≤ (-1 : Int))) v11) (c : Int) (k : Int)) _ l.length 0 (fun _ _ => True) ?_ ?_ l.length kf 0 () (by omega) (by omega) trivial
 ·intro kk _ _
  have hd : decide ((l.length : Int) < (l.length : Int)) = false := decide_eq_false (by omega)
  simp only [yy39_l2, yy39_l2_b, hd, cond_false]
  rfl
 ·intro kk c _ _ hc _
  left
  refine ⟨(), trivial, ?_⟩
  obtain ⟨t, h1, h2⟩ := hr c hc
  have hd : decide ((c : Int) < (l.length : Int)) = true := decide_eq_true (by omega)
  have g1 : decide (0 ≤ (c : Int)) = true := decide_eq_true (by omega)
  have g2 : decide ((t : Int) < 0) = false := decide_eq_false (by omega)
  have g3 : decide ((k : Int) ≤ (t : Int)) = false := decide_eq_false (by omega)
  simp only [yy39_l2, yy39_l2_b, yy19, yy19_b, hd, g1, gd, cond_true, cond_false, Int.toNat_natCast, h2, g2, g3, wi_1 c (show c < 4000000000000000000 by omega)]
theorem may_ok (h : Mch C N E k m) (kf : Nat) (hkf : 3000 ≤ kf) (K : Bool → Option R) : yy18 kf C N E K = K true := by
 unfold yy18 yy18_b
 have hn := h.nl; have he := h.el; have hk1 := h.k1; have hk2 := h.k2
 rw [decide_eq_false (show ¬ ((N.length : Int) < 1) by omega), decide_eq_false (show ¬ (2000 < (N.length : Int)) by omega), decide_eq_true (show (E.length : Int) = (N.length : Int) by omega)]
 simp only [cond_false, Bool.not_true]
 rw [classes_ok h kf hkf, hn]
 refine loop_inv (fun kk c (_ : Unit) => yy18_l6 kf kk (m : Int) N (k : Int) (fun (v16 : Bool) => K v16) (K true) (c : Int) (k : Int)) _ k 0 (fun _ _ => True) ?_ ?_ k kf 0 () (by omega) (by omega) trivial
 ·intro kk _ _
  have hd : decide ((k : Int) < (k : Int)) = false := decide_eq_false (by omega)
  simp only [yy18_l6, yy18_l6_b, hd, cond_false]
 ·intro kk c _ _ hc _
  left
  refine ⟨(), trivial, ?_⟩
  obtain ⟨h1, h2⟩ := h.row c hc
  have hd : decide ((c : Int) < (k : Int)) = true := decide_eq_true (by omega)
  have hd2 : decide ((c : Int) < (N.length : Int)) = true := decide_eq_true (by omega)
  have g1 : decide (0 ≤ (c : Int)) = true := decide_eq_true (by omega)
  have hm2 := h.m2
  have hc2 := contains_ok (R := R) (k := k) kf hkf (N.getD c []) (by omega) (by rw [h1]; exact h2)
  have hlen : decide (((N.getD c []).length : Int) = (m : Int)) = true := decide_eq_true (by omega)
  simp only [yy18_l6, yy18_l6_b, hd, hd2, g1, gd, cond_true, Int.toNat_natCast, hlen, Bool.not_true, cond_false, hc2, wi_1 c (show c < 4000000000000000000 by omega)]
theorem rclasses_ok (h : Mch C N E k m) (kf : Nat) (hkf : 3000 ≤ kf) (K : Int → Option R) : yy24 kf C N E K = K (m : Int) := by
 unfold yy24 yy24_b
 have hm1 := h.m1; have hm2 := h.m2
 refine loop_inv (fun kk c acc => yy24_l3 kf kk C (fun v10 => K v10) acc (c : Int)) _ 256 0 (fun c acc => acc = if c = 0 then 0 else mxTo C (c - 1) + 1) ?_ ?_ 256 kf 0 0 (by omega) (by omega) rfl
 ·rintro kk acc rfl
  have hd : decide (((256 : Nat) : Int) < 256) = false := rfl
  simp only [yy24_l3, yy24_l3_b, hd, cond_false]
  rw [if_neg (by omega), h.mx_eq]
  congr 1
  omega
 ·rintro kk c acc _ hc rfl
  left
  have hd : decide ((c : Int) < 256) = true := decide_eq_true (by omega)
  have g1 : decide (0 ≤ (c : Int)) = true := decide_eq_true (by omega)
  obtain ⟨a, ha1, ha2⟩ := h.clr c hc
  refine ⟨_, rfl, ?_⟩
  simp only [yy24_l3, yy24_l3_b, hd, g1, gd, cond_true, Int.toNat_natCast, wi_1 c (show c < 4000000000000000000 by omega), ha2, wi_n a (show a < 4000000000000000000 by omega), wi_1 a (show a < 4000000000000000000 by omega)]
  have e : mx (if c = 0 then 0 else mxTo C (c - 1) + 1) ((a + 1 : Nat) : Int) = if c + 1 = 0 then 0 else mxTo C (c + 1 - 1) + 1 := by
   rw [if_neg (show ¬ (c + 1 = 0) by omega)]
   simp only [Nat.add_sub_cancel]
   cases c with
   | zero =>
    simp only [if_true, mxTo, mx]
    rw [ha2]
    split <;> omega
   | succ d =>
    rw [if_neg (by omega)]
    simp only [Nat.add_sub_cancel, mxTo, mx]
    rw [ha2]
    split <;> split <;> omega
  rw [e]
theorem rmay_ok (h : Mch C N E k m) (kf : Nat) (hkf : 6000 ≤ kf) (K : Bool → Option R) : yy27 kf C N E K = K true := by
 unfold yy27 yy27_b
 have hn := h.nl; have he := h.el; have hk1 := h.k1; have hk2 := h.k2; have hm2 := h.m2
 rw [rclasses_ok h kf (by omega), decide_eq_false (show ¬ ((N.length : Int) < 1) by omega), decide_eq_false (show ¬ (2000 < (N.length : Int)) by omega), decide_eq_true (show (E.length : Int) = (N.length : Int) by omega)]
 simp only [cond_false, Bool.not_true]
 rw [hn]
 refine loop_inv (fun kk c (_ : Unit) => yy27_l5 kf kk (fun (v34 : Bool) => K v34) (K true) (k : Int) (m : Int) (c : Int) C N E) _ k 1000 (fun _ _ => True) ?_ ?_ k kf 0 () (by omega) (by omega) trivial
 ·intro kk _ _
  have hd : decide ((k : Int) < (k : Int)) = false := decide_eq_false (by omega)
  simp only [yy27_l5, yy27_l5_b, hd, cond_false]
 ·intro kk c _ hB hc _
  left
  refine ⟨(), trivial, ?_⟩
  obtain ⟨h1, h2⟩ := h.row c hc
  have hd : decide ((c : Int) < (k : Int)) = true := decide_eq_true (by omega)
  have hd2 : decide ((c : Int) < (N.length : Int)) = true := decide_eq_true (by omega)
  have g1 : decide (0 ≤ (c : Int)) = true := decide_eq_true (by omega)
  have hlen : decide (((N.getD c []).length : Int) = (m : Int)) = true := decide_eq_true (by omega)
  simp only [yy27_l5, yy27_l5_b, hd, hd2, g1, gd, cond_true, Int.toNat_natCast, hlen, Bool.not_true, cond_false]
  refine loop_inv (fun kk2 a (_ : Unit) => yy27_l10 kf kk2 (k : Int) (m : Int) (c : Int) C N E (fun (v21 : Bool) (v22 : Int) (v23 : Int) (v24 : Int) (v25 : (List Int)) (v26 : (List (List Int))) (v27 : (List Bool)) => K v21)
    (fun (v28 : Int) (v29 : Int) (v30 : Int) (v31 : (List Int)) (v32 : (List (List Int))) (v33 : (List Bool)) => yy27_l5 kf kk (fun (v34 : Bool) => K v34) (K true) v28 v29 (IntKind.i64.wrap (v30 + 1)) v31 v32 v33) (a : Int)) _ m 0 (fun _ _ => True) ?_ ?_ m kk 0 () (by omega) (by omega) trivial
  ·intro kk2 _ _
   have hd : decide ((m : Int) < (m : Int)) = false := decide_eq_false (by omega)
   simp only [yy27_l10, yy27_l10_b, hd, cond_false, wi_1 c (show c < 4000000000000000000 by omega)]
  ·intro kk2 a _ _ ha _
   left
   refine ⟨(), trivial, ?_⟩
   obtain ⟨t, ht1, ht2⟩ := h2 a ha
   have hda : decide ((a : Int) < (m : Int)) = true := decide_eq_true (by omega)
   have ga : decide (0 ≤ (a : Int)) = true := decide_eq_true (by omega)
   have gb : decide ((a : Int) < ((N.getD c []).length : Int)) = true := decide_eq_true (by omega)
   have g2 : decide ((t : Int) < 0) = false := decide_eq_false (by omega)
   have g3 : decide ((k : Int) ≤ (t : Int)) = false := decide_eq_false (by omega)
   simp only [yy27_l10, yy27_l10_b, hda, hd2, g1, ga, gb, gd, cond_true, cond_false, Int.toNat_natCast, ht2, g2, g3, wi_1 a (show a < 4000000000000000000 by omega)]
end
theorem snoc_getD {α : Type} (l : List α) (x d : α) (i : Nat) : (l ++ [x]).getD i d = if i < l.length then l.getD i d else if i = l.length then x else d := by
 rw [List.getD_eq_getElem?_getD, List.getD_eq_getElem?_getD]
 by_cases h : i < l.length
 ·rw [if_pos h, List.getElem?_append_left h]
 ·rw [if_neg h, List.getElem?_append_right (by omega)]
  by_cases h2 : i = l.length
  ·rw [if_pos h2, h2, Nat.sub_self]; rfl
  ·rw [if_neg h2, List.getElem?_eq_none (by simp; omega)]; rfl
end Go.Ab.T

/- Machines: where words lead, how many there are, and which; words as numbers. -/
namespace Go.Ab.T
open Go Go.Ab
set_option linter.unusedVariables false
set_option linter.unusedSimpArgs false
def dl (C : List Int) (N : List (List Int)) (s b : Nat) : Nat := ((N.getD s []).getD (C.getD b 0).toNat 0).toNat
def en (E : List Bool) (s : Nat) : Bool := E.getD s false
def dls (C : List Int) (N : List (List Int)) : Nat → List Nat → Nat
 | s, [] => s
 | s, b :: r => dls C N (dl C N s b) r
theorem dls_snoc (C : List Int) (N : List (List Int)) (b : Nat) : ∀ (w : List Nat) (s : Nat), dls C N s (w ++ [b]) = dl C N (dls C N s w) b
 | [], s => rfl
 | a :: r, s => dls_snoc C N b r (dl C N s a)
def sumR (n : Nat) (f : Nat → Nat) : Nat := ((List.range n).map f).sum
theorem sumR_zero (f : Nat → Nat) : sumR 0 f = 0 := rfl
theorem sumR_succ (n : Nat) (f : Nat → Nat) : sumR (n + 1) f = sumR n f + f n := by
 unfold sumR
 rw [List.range_succ, List.map_append, List.sum_append]
 simp
theorem sumR_const (n c : Nat) : sumR n (fun _ => c) = n * c := by
 induction n with
 | zero => simp [sumR_zero]
 | succ n ih => rw [sumR_succ, ih, Nat.succ_mul]
section
variable (C : List Int) (N : List (List Int)) (E : List Bool)
def W : Nat → Nat → Nat
 | 0, s => if en E s then 1 else 0
 | n + 1, s => sumR 256 fun b => W n (dl C N s b)
end
section
variable {R : Type} {C : List Int} {N : List (List Int)} {E : List Bool} {k m : Nat}
theorem Mch.cls_lt (h : Mch C N E k m) (b : Nat) (hb : b < 256) : (C.getD b 0).toNat < m ∧ C.getD b 0 = (((C.getD b 0).toNat : Nat) : Int) := by
 obtain ⟨a, h1, h2⟩ := h.clr b hb
 rw [h2]; simp; exact h1
theorem Mch.row_lt (h : Mch C N E k m) {s a : Nat} (hs : s < k) (ha : a < m) : ((N.getD s []).getD a 0).toNat < k ∧ (N.getD s []).getD a 0 = ((((N.getD s []).getD a 0).toNat : Nat) : Int) := by
 obtain ⟨t, h1, h2⟩ := (h.row s hs).2 a ha
 rw [h2]; simp; exact h1
theorem Mch.dl_lt (h : Mch C N E k m) {s b : Nat} (hs : s < k) (hb : b < 256) : dl C N s b < k := (h.row_lt hs (h.cls_lt b hb).1).1
theorem Mch.dls_lt (h : Mch C N E k m) : ∀ {w : List Nat} {s : Nat}, s < k → (∀ b ∈ w, b < 256) → dls C N s w < k
 | [], s, hs, _ => hs
 | b :: r, s, hs, hw => Mch.dls_lt h (w := r) (s := dl C N s b) (h.dl_lt hs (hw b (by simp))) fun x hx => hw x (by simp [hx])
end
def code (w : List Nat) : Nat := w.foldl (fun a b => 256 * a + b + 1) 0
theorem code_nil : code [] = 0 := rfl
theorem code_snoc (w : List Nat) (b : Nat) : code (w ++ [b]) = 256 * code w + b + 1 := by
 unfold code; rw [List.foldl_append]; rfl
theorem snoc_cases {α : Type} (w : List α) : w = [] ∨ ∃ v b, w = v ++ [b] := by
 rcases List.eq_nil_or_concat w with h | ⟨v, b, h⟩
 ·exact Or.inl h
 ·exact Or.inr ⟨v, b, by rw [h]; simp⟩
theorem code_inj : ∀ (n : Nat) (v w : List Nat), v.length ≤ n → (∀ b ∈ v, b < 256) → (∀ b ∈ w, b < 256) → code v = code w → v = w := by
 intro n
 induction n with
 | zero =>
  intro v w hn hv hw h
  have : v = [] := List.length_eq_zero_iff.1 (by omega)
  subst this
  rcases snoc_cases w with rfl | ⟨w', b, rfl⟩
  ·rfl
  ·rw [code_nil, code_snoc] at h; omega
 | succ n ih =>
  intro v w hn hv hw h
  rcases snoc_cases v with rfl | ⟨v', a, rfl⟩
  ·rcases snoc_cases w with rfl | ⟨w', b, rfl⟩
   ·rfl
   ·rw [code_nil, code_snoc] at h; omega
  ·rcases snoc_cases w with rfl | ⟨w', b, rfl⟩
   ·rw [code_nil, code_snoc] at h; omega
   ·rw [code_snoc, code_snoc] at h
    have ha := hv a (by simp)
    have hb := hw b (by simp)
    have e1 : a = b := by omega
    have e2 : code v' = code w' := by omega
    subst e1
    rw [ih v' w' (by simp at hn; omega) (fun x hx => hv x (by simp [hx])) (fun x hx => hw x (by simp [hx])) e2]
end Go.Ab.T

/- Lists of numbers, and a machine that is flipped. -/
namespace Go.Ab.T
open Go Go.Ab
set_option linter.unusedVariables false
set_option linter.unusedSimpArgs false
theorem getD_set' {α : Type} (l : List α) (d i : Nat) (v x : α) : (l.set d v).getD i x = if d = i ∧ i < l.length then v else l.getD i x := by
 rw [List.getD_eq_getElem?_getD, List.getD_eq_getElem?_getD, List.getElem?_set]
 by_cases h : d = i
 ·subst h
  by_cases hl : d < l.length
  ·simp [hl]
  ·rw [if_pos rfl, if_neg hl, if_neg (fun q => hl q.2), List.getElem?_eq_none (by omega)]
 ·rw [if_neg h, if_neg (fun q => h q.1)]
theorem getD_rep {α : Type} (n i : Nat) (v : α) : (List.replicate n v).getD i v = v := by
 rw [List.getD_eq_getElem?_getD, List.getElem?_replicate]
 split <;> rfl
theorem map_getD (l : List Nat) (i : Nat) : (l.map fun b : Nat => (b : Int)).getD i 0 = ((l.getD i 0 : Nat) : Int) := by
 rw [List.getD_eq_getElem?_getD, List.getD_eq_getElem?_getD, List.getElem?_map]
 cases l[i]? <;> rfl
def castF (F : List Nat) : List Int := F.map fun b : Nat => (b : Int)
theorem castF_len (F : List Nat) : (castF F).length = F.length := by unfold castF; rw [List.length_map]
theorem castF_getD (F : List Nat) (j : Nat) : (castF F).getD j 0 = ((F.getD j 0 : Nat) : Int) := map_getD F j
theorem ext_getD {α : Type} (d : α) {a b : List α} (hl : a.length = b.length) (h : ∀ i, i < a.length → a.getD i d = b.getD i d) : a = b := by
 apply List.ext_getElem hl
 intro i h1 h2
 have := h i h1
 rwa [List.getD_eq_getElem?_getD, List.getD_eq_getElem?_getD, List.getElem?_eq_getElem h1, List.getElem?_eq_getElem h2] at this
section
variable {R : Type} {C : List Int} {N : List (List Int)} {E : List Bool} {k m : Nat}
end
end Go.Ab.T

/- The words that lead to states, shortest and least first: a search in the order of words. -/
namespace Go.Ab.T
open Go Go.Ab
set_option linter.unusedVariables false
set_option linter.unusedSimpArgs false
theorem nodup_len : ∀ (l ys : List Nat), l.Nodup → (∀ x ∈ l, x ∈ ys) → l.length ≤ ys.length
 | [], ys, _, _ => Nat.zero_le _
 | a :: r, ys, hn, hs => by
  rw [List.nodup_cons] at hn
  have ha := hs a (by simp)
  have ih := nodup_len r (ys.erase a) hn.2 fun x hx => (List.mem_erase_of_ne (fun h => hn.1 (by rw [← h]; exact hx))).2 (hs x (by simp [hx]))
  rw [List.length_erase_of_mem ha] at ih
  have := List.length_pos_of_mem ha
  rw [List.length_cons]
  omega
def isRep (C : List Int) (f : Nat) : Prop := ∀ b, b < f → C.getD b 0 ≠ C.getD f 0
theorem rep_of (C : List Int) : ∀ b : Nat, ∃ f, f ≤ b ∧ isRep C f ∧ C.getD f 0 = C.getD b 0 := by
 intro b
 induction b using Nat.strongRecOn with
 | _ b ih =>
  by_cases h : isRep C b
  ·exact ⟨b, Nat.le_refl _, h, rfl⟩
  ·obtain ⟨c, hc⟩ := Classical.not_forall.1 h
   obtain ⟨h1, h2⟩ := Classical.not_imp.1 hc
   obtain ⟨f, q1, q2, q3⟩ := ih c h1
   exact ⟨f, by omega, q2, by rw [q3]; exact Classical.not_not.1 h2⟩
abbrev Q := List (Nat × List Nat)
def qs (q : Q) (i : Nat) : Nat := (q.getD i (0, [])).1
def qw (q : Q) (i : Nat) : List Nat := (q.getD i (0, [])).2
theorem q_mem {q : Q} {i : Nat} (h : i < q.length) : (qs q i, qw q i) ∈ q := by
 unfold qs qw
 exact getD_mem q i h (0, [])
theorem q_of_mem {q : Q} {x : Nat × List Nat} (h : x ∈ q) : ∃ i, i < q.length ∧ x = (qs q i, qw q i) := by
 obtain ⟨i, h1, h2⟩ := List.mem_iff_getElem.1 h
 refine ⟨i, h1, ?_⟩
 unfold qs qw
 rw [List.getD_eq_getElem?_getD, List.getElem?_eq_getElem h1, h2]
 rfl
theorem qs_old {q : Q} {x : Nat × List Nat} {i : Nat} (h : i < q.length) : qs (q ++ [x]) i = qs q i := by
 unfold qs; rw [snoc_getD, if_pos h]
theorem qw_old {q : Q} {x : Nat × List Nat} {i : Nat} (h : i < q.length) : qw (q ++ [x]) i = qw q i := by
 unfold qw; rw [snoc_getD, if_pos h]
theorem qs_new {q : Q} {x : Nat × List Nat} : qs (q ++ [x]) q.length = x.1 := by
 unfold qs; rw [snoc_getD, if_neg (by omega), if_pos rfl]
theorem qw_new {q : Q} {x : Nat × List Nat} : qw (q ++ [x]) q.length = x.2 := by
 unfold qw; rw [snoc_getD, if_neg (by omega), if_pos rfl]
structure Bfs (C : List Int) (N : List (List Int)) (E : List Bool) (k : Nat) (p B : Nat) (q : Q) : Prop where
 root : (0, []) ∈ q
 lt : ∀ x ∈ q, x.1 < k ∧ (∀ b ∈ x.2, b < 256) ∧ dls C N 0 x.2 = x.1
 inj : ∀ i j, i < j → j < q.length → qs q i ≠ qs q j
 sorted : ∀ i j, i < j → j < q.length → code (qw q i) < code (qw q j)
 top : p < q.length → ∀ x ∈ q, code x.2 < 256 * code (qw q p) + B + 1
 done : ∀ i, i < p → ∀ b, b < 256 → ∃ x ∈ q, x.1 = dl C N (qs q i) b ∧ code x.2 ≤ 256 * code (qw q i) + b + 1
 part : p < q.length → ∀ b f, b < 256 → f ≤ b → isRep C f → f < B → C.getD f 0 = C.getD b 0 → ∃ x ∈ q, x.1 = dl C N (qs q p) b ∧ code x.2 ≤ 256 * code (qw q p) + b + 1
 dead : ∀ i, i < p → en E (qs q i) = false
 len : ∀ i, i < q.length → (qw q i).length ≤ i
 ple : p ≤ q.length
section
variable {C : List Int} {N : List (List Int)} {E : List Bool} {k m p B : Nat} {q : Q}
theorem dl_cls {s b f : Nat} (h : C.getD f 0 = C.getD b 0) : dl C N s f = dl C N s b := by unfold dl; rw [h]
theorem Bfs.start (hk : 1 ≤ k) : Bfs C N E k 0 0 [(0, [])] := by
 refine ⟨by simp, ?_, ?_, ?_, ?_, ?_, ?_, ?_, ?_, ?_⟩
 ·intro x hx
  rw [List.mem_singleton] at hx
  subst hx
  exact ⟨hk, by simp, rfl⟩
 ·intro i j hij hj; simp at hj; omega
 ·intro i j hij hj; simp at hj; omega
 ·intro _ x hx
  rw [List.mem_singleton] at hx
  subst hx
  have : qw [(0, [])] 0 = [] := rfl
  rw [this, code_nil]
  show code [] < _
  rw [code_nil]; omega
 ·intro i hi; omega
 ·intro _ b f _ _ _ hf; omega
 ·intro i hi; omega
 ·intro i hi
  simp at hi
  subst hi
  exact Nat.le_refl _
 ·simp
theorem Bfs.skip (h : Bfs C N E k p B q) (B' : Nat) (hB : B ≤ B') (hn : ∀ f, B ≤ f → f < B' → f < 256 → ¬ isRep C f) : Bfs C N E k p B' q := by
 refine ⟨h.root, h.lt, h.inj, h.sorted, ?_, h.done, ?_, h.dead, h.len, h.ple⟩
 ·intro hp x hx
  have := h.top hp x hx
  omega
 ·intro hp b f hb hfb hf hfB hc
  by_cases hlt : f < B
  ·exact h.part hp b f hb hfb hf hlt hc
  ·exact absurd hf (hn f (by omega) hfB (by omega))
theorem Bfs.old (h : Bfs C N E k p B q) (hp : p < q.length) (hB : B < 256) (hr : isRep C B) (hm : ∃ x ∈ q, x.1 = dl C N (qs q p) B) : Bfs C N E k p (B + 1) q := by
 refine ⟨h.root, h.lt, h.inj, h.sorted, ?_, h.done, ?_, h.dead, h.len, h.ple⟩
 ·intro hp x hx
  have := h.top hp x hx
  omega
 ·intro hp b f hb hfb hf hfB hc
  by_cases hlt : f < B
  ·exact h.part hp b f hb hfb hf hlt hc
  ·have : f = B := by omega
   subst this
   obtain ⟨x, hx, he⟩ := hm
   refine ⟨x, hx, by rw [he, dl_cls hc], ?_⟩
   have := h.top hp x hx
   omega
theorem Bfs.new (hM : Mch C N E k m) (h : Bfs C N E k p B q) (hp : p < q.length) (hB : B < 256) (hr : isRep C B) (hm : ∀ x ∈ q, x.1 ≠ dl C N (qs q p) B) : Bfs C N E k p (B + 1) (q ++ [(dl C N (qs q p) B, qw q p ++ [B])]) := by
 obtain ⟨p1, p2, p3⟩ := h.lt _ (q_mem hp)
 have hlen : (q ++ [(dl C N (qs q p) B, qw q p ++ [B])]).length = q.length + 1 := by simp
 refine ⟨?_, ?_, ?_, ?_, ?_, ?_, ?_, ?_, ?_, ?_⟩
 ·exact List.mem_append_left _ h.root
 ·intro x hx
  rcases List.mem_append.1 hx with hx | hx
  ·exact h.lt x hx
  ·rw [List.mem_singleton] at hx
   subst hx
   refine ⟨hM.dl_lt p1 hB, ?_, ?_⟩
   ·intro b hb
    rcases List.mem_append.1 hb with hb | hb
    ·exact p2 b hb
    ·rw [List.mem_singleton] at hb; omega
   ·rw [dls_snoc]
    show dl C N (dls C N 0 (qw q p)) B = _
    rw [show dls C N 0 (qw q p) = qs q p from p3]
 ·intro i j hij hj
  rw [hlen] at hj
  by_cases hjl : j < q.length
  ·rw [qs_old hjl, qs_old (by omega)]; exact h.inj i j hij hjl
  ·have : j = q.length := by omega
   subst this
   rw [qs_new, qs_old hij]
   exact hm _ (q_mem hij)
 ·intro i j hij hj
  rw [hlen] at hj
  by_cases hjl : j < q.length
  ·rw [qw_old hjl, qw_old (by omega)]; exact h.sorted i j hij hjl
  ·have : j = q.length := by omega
   subst this
   rw [qw_new, qw_old hij, code_snoc]
   have := h.top hp _ (q_mem hij)
   exact this
 ·intro _ x hx
  rw [qw_old hp]
  rcases List.mem_append.1 hx with hx | hx
  ·have := h.top hp x hx; omega
  ·rw [List.mem_singleton] at hx
   subst hx
   rw [code_snoc]; omega
 ·intro i hi b hb
  obtain ⟨x, hx, h1, h2⟩ := h.done i hi b hb
  have hi' : i < q.length := by have := h.ple; omega
  rw [qs_old hi', qw_old hi']
  exact ⟨x, List.mem_append_left _ hx, h1, h2⟩
 ·intro _ b f hb hfb hf hfB hc
  rw [qs_old hp, qw_old hp]
  by_cases hlt : f < B
  ·obtain ⟨x, hx, h1, h2⟩ := h.part hp b f hb hfb hf hlt hc
   exact ⟨x, List.mem_append_left _ hx, h1, h2⟩
  ·have : f = B := by omega
   subst this
   refine ⟨_, List.mem_append_right _ (List.mem_singleton.2 rfl), by rw [dl_cls hc], ?_⟩
   rw [code_snoc]; omega
 ·intro i hi
  have hi' : i < q.length := by have := h.ple; omega
  rw [qs_old hi']; exact h.dead i hi
 ·intro i hi
  rw [hlen] at hi
  by_cases hil : i < q.length
  ·rw [qw_old hil]; exact h.len i hil
  ·have : i = q.length := by omega
   subst this
   rw [qw_new, List.length_append, List.length_singleton]
   have := h.len p hp
   omega
 ·have := h.ple; omega
theorem Bfs.next (h : Bfs C N E k p 256 q) (hp : p < q.length) (he : en E (qs q p) = false) : Bfs C N E k (p + 1) 0 q := by
 refine ⟨h.root, h.lt, h.inj, h.sorted, ?_, ?_, ?_, ?_, h.len, by omega⟩
 ·intro hp1 x hx
  have h1 := h.top hp x hx
  have h2 := h.sorted p (p + 1) (by omega) hp1
  omega
 ·intro i hi b hb
  by_cases hip : i < p
  ·exact h.done i hip b hb
  ·have : i = p := by omega
   subst this
   obtain ⟨f, f1, f2, f3⟩ := rep_of C b
   exact h.part hp b f hb f1 f2 (by omega) f3
 ·intro _ b f _ _ _ hf; omega
 ·intro i hi
  by_cases hip : i < p
  ·exact h.dead i hip
  ·have : i = p := by omega
   subst this; exact he
theorem Bfs.size (h : Bfs C N E k p B q) : q.length ≤ k := by
 have hn : (q.map (·.1)).Nodup := by
  unfold List.Nodup
  rw [List.pairwise_iff_getElem]
  intro i j hi hj hij
  rw [List.getElem_map, List.getElem_map]
  rw [List.length_map] at hi hj
  have := h.inj i j hij hj
  unfold qs at this
  rwa [List.getD_eq_getElem?_getD, List.getD_eq_getElem?_getD, List.getElem?_eq_getElem hi, List.getElem?_eq_getElem hj] at this
 have := nodup_len (q.map (·.1)) (List.range k) hn (fun x hx => by
  rw [List.mem_map] at hx
  obtain ⟨y, hy, rfl⟩ := hx
  exact List.mem_range.2 (h.lt y hy).1)
 rwa [List.length_map, List.length_range] at this
theorem Bfs.all (h : Bfs C N E k p 0 q) : ∀ (n : Nat) (v : List Nat), v.length = n → (∀ b ∈ v, b < 256) →
  (∃ x ∈ q, x.1 = dls C N 0 v ∧ code x.2 ≤ code v) ∨ (p < q.length ∧ 256 * code (qw q p) + 1 ≤ code v)
 | 0, v, hn, _ => by
  have : v = [] := List.length_eq_zero_iff.1 hn
  subst this
  exact Or.inl ⟨(0, []), h.root, rfl, Nat.le_refl _⟩
 | n + 1, v, hn, hv => by
  rcases snoc_cases v with rfl | ⟨u, b, rfl⟩
  ·simp at hn
  ·have hb := hv b (by simp)
   rw [code_snoc, dls_snoc]
   rcases h.all n u (by simpa using hn) (fun x hx => hv x (by simp [hx])) with ⟨x, hx, h1, h2⟩ | ⟨h1, h2⟩
   ·obtain ⟨i, hi, rfl⟩ := q_of_mem hx
    simp only at h1 h2
    by_cases hip : i < p
    ·obtain ⟨y, hy, y1, y2⟩ := h.done i hip b hb
     left
     exact ⟨y, hy, by rw [y1, h1], by omega⟩
    ·right
     refine ⟨by omega, ?_⟩
     by_cases hpi : p = i
     ·subst hpi; omega
     ·have := h.sorted p i (by omega) hi; omega
   ·exact Or.inr ⟨h1, by omega⟩
theorem Bfs.found (h : Bfs C N E k p 0 q) (hp : p < q.length) (he : en E (qs q p) = true) :
  en E (dls C N 0 (qw q p)) = true ∧ (∀ b ∈ qw q p, b < 256) ∧ (qw q p).length < k ∧ ∀ v, (∀ b ∈ v, b < 256) → en E (dls C N 0 v) = true → code (qw q p) ≤ code v := by
 obtain ⟨p1, p2, p3⟩ := h.lt _ (q_mem hp)
 simp only at p1 p2 p3
 refine ⟨by rw [p3]; exact he, p2, ?_, ?_⟩
 ·have := h.len p hp; have := h.size; omega
 ·intro v hv hev
  rcases h.all v.length v rfl hv with ⟨x, hx, h1, h2⟩ | ⟨_, h2⟩
  ·obtain ⟨i, hi, rfl⟩ := q_of_mem hx
   simp only at h1 h2
   have hip : ¬ i < p := by
    intro hip
    have := h.dead i hip
    rw [h1, hev] at this; cases this
   by_cases hpi : p = i
   ·subst hpi; exact h2
   ·have := h.sorted p i (by omega) hi; omega
  ·omega
theorem Bfs.none (h : Bfs C N E k p 0 q) (hp : ¬ p < q.length) : ∀ v, (∀ b ∈ v, b < 256) → en E (dls C N 0 v) = false := by
 intro v hv
 rcases h.all v.length v rfl hv with ⟨x, hx, h1, h2⟩ | ⟨h1, _⟩
 ·obtain ⟨i, hi, rfl⟩ := q_of_mem hx
  simp only at h1
  rw [← h1]
  exact h.dead i (by omega)
 ·exact absurd h1 hp
end
def IsShort (C : List Int) (N : List (List Int)) (E : List Bool) (k : Nat) (is : Bool) (w : List Nat) : Prop :=
 (is = true ∧ en E (dls C N 0 w) = true ∧ (∀ b ∈ w, b < 256) ∧ w.length < k ∧ ∀ v, (∀ b ∈ v, b < 256) → en E (dls C N 0 v) = true → code w ≤ code v) ∨
 (is = false ∧ w = [] ∧ ∀ v, (∀ b ∈ v, b < 256) → en E (dls C N 0 v) = false)
theorem IsShort.unique {C : List Int} {N : List (List Int)} {E : List Bool} {k : Nat} {is is' : Bool} {w w' : List Nat} (h : IsShort C N E k is w) (h' : IsShort C N E k is' w') : is = is' ∧ w = w' := by
 rcases h with ⟨a1, a2, a3, a4, a5⟩ | ⟨a1, a2, a3⟩
 ·rcases h' with ⟨b1, b2, b3, b4, b5⟩ | ⟨b1, b2, b3⟩
  ·refine ⟨by rw [a1, b1], code_inj _ w w' (Nat.le_refl _) a3 b3 ?_⟩
   have := a5 w' b3 b2
   have := b5 w a3 a2
   omega
  ·rw [b3 w a3] at a2; cases a2
 ·rcases h' with ⟨b1, b2, b3, b4, b5⟩ | ⟨b1, b2, b3⟩
  ·rw [a3 w' b3] at b2; cases b2
  ·exact ⟨by rw [a1, b1], by rw [a2, b2]⟩
end Go.Ab.T

/- Machines in their own form: of each language just one. -/
namespace Go.Ab.T
open Go Go.Ab
set_option linter.unusedVariables false
set_option linter.unusedSimpArgs false
def isBy (w : List Nat) : Prop := ∀ b ∈ w, b < 256
def repB (C : List Int) (f : Nat) : Bool := (List.range f).all fun b => !decide (C.getD b 0 = C.getD f 0)
theorem repB_iff {C : List Int} {f : Nat} : repB C f = true ↔ isRep C f := by
 unfold repB isRep
 rw [List.all_eq_true]
 simp [List.mem_range]
theorem dls_append (C : List Int) (N : List (List Int)) : ∀ (v w : List Nat) (s : Nat), dls C N s (v ++ w) = dls C N (dls C N s v) w
 | [], w, s => rfl
 | b :: v, w, s => dls_append C N v w (dl C N s b)
def eqs (C : List Int) (N : List (List Int)) (E : List Bool) (s t : Nat) : Prop := ∀ v, isBy v → en E (dls C N s v) = en E (dls C N t v)
theorem eqs_step {C : List Int} {N : List (List Int)} {E : List Bool} {s t : Nat} (h : eqs C N E s t) {b : Nat} (hb : b < 256) : eqs C N E (dl C N s b) (dl C N t b) := fun v hv => h (b :: v) (by
 intro x hx
 rcases List.mem_cons.1 hx with rfl | hx
 ·exact hb
 ·exact hv x hx)
structure Canon (C : List Int) (N : List (List Int)) (E : List Bool) (n m : Nat) : Prop where
 mch : Mch C N E n m
 gap : gapless C
 ord : ∃ wd : Nat → List Nat, (∀ j, j < n → isBy (wd j) ∧ dls C N 0 (wd j) = j ∧ ∀ v, isBy v → dls C N 0 v = j → code (wd j) ≤ code v) ∧ ∀ i j, i < j → j < n → code (wd i) < code (wd j)
 dist : ∀ i j, i < n → j < n → eqs C N E i j → i = j
 cls : ∀ b b', b < 256 → b' < 256 → (∀ i, i < n → dl C N i b = dl C N i b') → C.getD b 0 = C.getD b' 0
 num : ∀ b, b < 256 → isRep C b → C.getD b 0 = (((List.range b).countP (repB C) : Nat) : Int)
theorem mono_le {f : Nat → Nat} {n : Nat} (hf : ∀ i j, i < j → j < n → f i < f j) : ∀ i, i < n → i ≤ f i
 | 0, _ => Nat.zero_le _
 | i + 1, h => by
  have := mono_le hf i (by omega)
  have := hf i (i + 1) (by omega) h
  omega
theorem mono_up {f : Nat → Nat} {n : Nat} (hf : ∀ i j, i < j → j < n → f i < f j) (hb : ∀ i, i < n → f i < n) : ∀ d i, i + d + 1 = n → f i ≤ i
 | 0, i, h => by have := hb i (by omega); omega
 | d + 1, i, h => by
  have := mono_up hf hb d (i + 1) (by omega)
  have := hf i (i + 1) (by omega) (by omega)
  omega
section
variable {C C' : List Int} {N N' : List (List Int)} {E E' : List Bool} {n n' m m' : Nat}
def Lang (C : List Int) (N : List (List Int)) (E : List Bool) (C' : List Int) (N' : List (List Int)) (E' : List Bool) : Prop := ∀ v, isBy v → en E (dls C N 0 v) = en E' (dls C' N' 0 v)
theorem Lang.symm (h : Lang C N E C' N' E') : Lang C' N' E' C N E := fun v hv => (h v hv).symm
theorem Canon.same_state (h : Canon C N E n m) (h' : Canon C' N' E' n' m') (hL : Lang C N E C' N' E') {v u : List Nat} (hv : isBy v) (hu : isBy u) (he : dls C N 0 v = dls C N 0 u) : dls C' N' 0 v = dls C' N' 0 u := by
 refine h'.dist _ _ (h'.mch.dls_lt h'.mch.k1 hv) (h'.mch.dls_lt h'.mch.k1 hu) fun w hw => ?_
 rw [← dls_append, ← dls_append, ← hL _ (fun x hx => by
  rcases List.mem_append.1 hx with hx | hx
  ·exact hv x hx
  ·exact hw x hx), ← hL _ (fun x hx => by
  rcases List.mem_append.1 hx with hx | hx
  ·exact hu x hx
  ·exact hw x hx), dls_append, dls_append, he]
theorem Canon.half (h : Canon C N E n m) (h' : Canon C' N' E' n' m') (hL : Lang C N E C' N' E') :
  ∃ f : Nat → Nat, (∀ i, i < n → f i < n') ∧ (∀ i j, i < j → j < n → f i < f j) ∧ ∀ v, isBy v → f (dls C N 0 v) = dls C' N' 0 v := by
 obtain ⟨wd, w1, w2⟩ := h.ord
 obtain ⟨wd', w1', w2'⟩ := h'.ord
 refine ⟨fun i => dls C' N' 0 (wd i), fun i hi => h'.mch.dls_lt h'.mch.k1 (w1 i hi).1, fun i j hij hj => ?_, fun v hv => ?_⟩
 ·-- the least word of a state is the least one of its like
  have key : ∀ i, i < n → code (wd i) = code (wd' (dls C' N' 0 (wd i))) := by
   intro i hi
   obtain ⟨a1, a2, a3⟩ := w1 i hi
   have hlt := h'.mch.dls_lt h'.mch.k1 a1
   obtain ⟨b1, b2, b3⟩ := w1' _ hlt
   have c1 := b3 (wd i) a1 rfl
   have c2 := a3 (wd' (dls C' N' 0 (wd i))) b1 (by
    have := h'.same_state h hL.symm b1 a1 b2
    rw [this, a2])
   omega
  have hi : i < n := by omega
  have h1 := w2 i j hij hj
  rw [key i hi, key j hj] at h1
  apply Classical.byContradiction
  intro hn
  have hn : ¬ dls C' N' 0 (wd i) < dls C' N' 0 (wd j) := hn
  have hlti := h'.mch.dls_lt h'.mch.k1 (w1 i hi).1
  rcases Nat.lt_or_ge (dls C' N' 0 (wd j)) (dls C' N' 0 (wd i)) with hlt | hge
  ·have := w2' _ _ hlt hlti
   omega
  ·have : dls C' N' 0 (wd i) = dls C' N' 0 (wd j) := by omega
   rw [this] at h1; omega
 ·have hlt := h.mch.dls_lt h.mch.k1 hv
  obtain ⟨a1, a2, a3⟩ := w1 _ hlt
  exact h.same_state h' hL a1 hv a2
theorem Canon.unique (h : Canon C N E n m) (h' : Canon C' N' E' n' m') (hL : Lang C N E C' N' E') : C = C' ∧ N = N' ∧ E = E' := by
 obtain ⟨f, f1, f2, f3⟩ := h.half h' hL
 obtain ⟨g, g1, g2, g3⟩ := h'.half h hL.symm
 have hn : n = n' := by
  have := h.mch.k1; have := h'.mch.k1
  have a1 := mono_le f2 (n - 1) (by omega)
  have a2 := f1 (n - 1) (by omega)
  have b1 := mono_le g2 (n' - 1) (by omega)
  have b2 := g1 (n' - 1) (by omega)
  omega
 subst hn
 have hid : ∀ i, i < n → f i = i := fun i hi => by
  have := mono_le f2 i hi
  have := mono_up f2 f1 (n - 1 - i) i (by omega)
  omega
 have hd : ∀ v, isBy v → dls C N 0 v = dls C' N' 0 v := fun v hv => by
  rw [← f3 v hv, hid _ (h.mch.dls_lt h.mch.k1 hv)]
 obtain ⟨wd, w1, w2⟩ := h.ord
 have hdl : ∀ i, i < n → ∀ b, b < 256 → dl C N i b = dl C' N' i b := by
  intro i hi b hb
  obtain ⟨a1, a2, _⟩ := w1 i hi
  have hv : isBy (wd i ++ [b]) := by
   intro x hx
   rcases List.mem_append.1 hx with hx | hx
   ·exact a1 x hx
   ·rw [List.mem_singleton] at hx; omega
  have := hd _ hv
  rw [dls_snoc, dls_snoc, ← hd _ a1, a2] at this
  exact this
 have hen : ∀ i, i < n → en E i = en E' i := by
  intro i hi
  obtain ⟨a1, a2, _⟩ := w1 i hi
  have := hL _ a1
  rwa [← hd _ a1, a2] at this
 have hceq : ∀ b b', b < 256 → b' < 256 → (C.getD b 0 = C.getD b' 0 ↔ C'.getD b 0 = C'.getD b' 0) := by
  intro b b' hb hb'
  constructor
  ·intro he
   refine h'.cls b b' hb hb' fun i hi => ?_
   rw [← hdl i hi b hb, ← hdl i hi b' hb']
   unfold dl; rw [he]
  ·intro he
   refine h.cls b b' hb hb' fun i hi => ?_
   rw [hdl i hi b hb, hdl i hi b' hb']
   unfold dl; rw [he]
 have hrep : ∀ b, b < 256 → repB C b = repB C' b := by
  intro b hb
  rw [Bool.eq_iff_iff, repB_iff, repB_iff]
  constructor
  ·intro hr c hc he
   exact hr c hc ((hceq c b (by omega) hb).2 he)
  ·intro hr c hc he
   exact hr c hc ((hceq c b (by omega) hb).1 he)
 have hC : ∀ b, b < 256 → C.getD b 0 = C'.getD b 0 := by
  intro b hb
  obtain ⟨f0, q1, q2, q3⟩ := rep_of C b
  have q2' : isRep C' f0 := repB_iff.1 (by rw [← hrep f0 (by omega)]; exact repB_iff.2 q2)
  have q3' := (hceq f0 b (by omega) hb).1 q3
  rw [← q3, ← q3', h.num f0 (by omega) q2, h'.num f0 (by omega) q2']
  congr 1
  apply List.countP_congr
  intro x hx
  rw [hrep x (by have := List.mem_range.1 hx; omega)]
 have eC : C = C' := by
  apply List.ext_getElem
  ·rw [h.mch.cl, h'.mch.cl]
  ·intro i h1 h2
   have hi : i < 256 := by have := h.mch.cl; omega
   have := hC i hi
   rwa [List.getD_eq_getElem?_getD, List.getD_eq_getElem?_getD, List.getElem?_eq_getElem h1, List.getElem?_eq_getElem h2] at this
 subst eC
 have hm : m = m' := by
  have := h.mch.m1; have := h'.mch.m1
  obtain ⟨b, hb, he⟩ := h.mch.top
  obtain ⟨a, ha, he2⟩ := h'.mch.clr b hb
  obtain ⟨b', hb', he'⟩ := h'.mch.top
  obtain ⟨a', ha', he2'⟩ := h.mch.clr b' hb'
  omega
 subst hm
 refine ⟨rfl, ?_, ?_⟩
 ·apply List.ext_getElem
  ·rw [h.mch.nl, h'.mch.nl]
  ·intro i h1 h2
   have hi : i < n := by rw [← h.mch.nl]; exact h1
   obtain ⟨r1, r2⟩ := h.mch.row i hi
   obtain ⟨r1', r2'⟩ := h'.mch.row i hi
   have e1 : N.getD i [] = N[i] := by rw [List.getD_eq_getElem?_getD, List.getElem?_eq_getElem h1]; rfl
   have e2 : N'.getD i [] = N'[i] := by rw [List.getD_eq_getElem?_getD, List.getElem?_eq_getElem h2]; rfl
   rw [← e1, ← e2]
   apply List.ext_getElem
   ·rw [r1, r1']
   ·intro a a1 a2
    have ha : a < m := by omega
    obtain ⟨b, hb, he⟩ := h.mch.inh h.gap a ha
    have := hdl i hi b hb
    unfold dl at this
    rw [he, Int.toNat_natCast] at this
    obtain ⟨t, t1, t2⟩ := r2 a ha
    obtain ⟨t', t1', t2'⟩ := r2' a ha
    rw [t2, t2', Int.toNat_natCast, Int.toNat_natCast] at this
    have q1 : (N.getD i [])[a] = (N.getD i []).getD a 0 := by rw [List.getD_eq_getElem?_getD (l := N.getD i []), List.getElem?_eq_getElem a1]; rfl
    have q2 : (N'.getD i [])[a] = (N'.getD i []).getD a 0 := by rw [List.getD_eq_getElem?_getD (l := N'.getD i []), List.getElem?_eq_getElem a2]; rfl
    rw [q1, q2, t2, t2', this]
 ·apply List.ext_getElem
  ·rw [h.mch.el, h'.mch.el]
  ·intro i h1 h2
   have hi : i < n := by rw [← h.mch.el]; exact h1
   have := hen i hi
   unfold en at this
   rwa [List.getD_eq_getElem?_getD, List.getD_eq_getElem?_getD, List.getElem?_eq_getElem h1, List.getElem?_eq_getElem h2] at this
end
end Go.Ab.T

/- The same search, over any steps: states in the order of their least words. -/
namespace Go.Ab.T
open Go Go.Ab
set_option linter.unusedVariables false
set_option linter.unusedSimpArgs false
def run (δ : Nat → Nat → Nat) : Nat → List Nat → Nat
 | s, [] => s
 | s, b :: r => run δ (δ s b) r
theorem run_snoc (δ : Nat → Nat → Nat) (b : Nat) : ∀ (w : List Nat) (s : Nat), run δ s (w ++ [b]) = δ (run δ s w) b
 | [], s => rfl
 | a :: r, s => run_snoc δ b r (δ s a)
def isR (cl : Nat → Int) (f : Nat) : Prop := ∀ b, b < f → cl b ≠ cl f
theorem r_of (cl : Nat → Int) : ∀ b : Nat, ∃ f, f ≤ b ∧ isR cl f ∧ cl f = cl b := by
 intro b
 induction b using Nat.strongRecOn with
 | _ b ih =>
  by_cases h : isR cl b
  ·exact ⟨b, Nat.le_refl _, h, rfl⟩
  ·obtain ⟨c, hc⟩ := Classical.not_forall.1 h
   obtain ⟨h1, h2⟩ := Classical.not_imp.1 hc
   obtain ⟨f, q1, q2, q3⟩ := ih c h1
   exact ⟨f, by omega, q2, by rw [q3]; exact Classical.not_not.1 h2⟩
structure Stp (δ : Nat → Nat → Nat) (G : Nat → Prop) (cl : Nat → Int) (k : Nat) : Prop where
 zero : 0 < k ∧ G 0
 lt : ∀ s b, s < k → G s → b < 256 → δ s b < k ∧ G (δ s b)
 cl : ∀ s b f, s < k → G s → f < 256 → b < 256 → cl f = cl b → δ s f = δ s b
structure Bg (δ : Nat → Nat → Nat) (G : Nat → Prop) (cl : Nat → Int) (k : Nat) (p B : Nat) (q : Q) : Prop where
 root : qs q 0 = 0 ∧ qw q 0 = [] ∧ 0 < q.length
 lt : ∀ x ∈ q, x.1 < k ∧ G x.1 ∧ isBy x.2 ∧ run δ 0 x.2 = x.1
 inj : ∀ i j, i < j → j < q.length → qs q i ≠ qs q j
 sorted : ∀ i j, i < j → j < q.length → code (qw q i) < code (qw q j)
 top : p < q.length → ∀ x ∈ q, code x.2 < 256 * code (qw q p) + B + 1
 done : ∀ i, i < p → ∀ b, b < 256 → ∃ x ∈ q, x.1 = δ (qs q i) b ∧ code x.2 ≤ 256 * code (qw q i) + b + 1
 part : p < q.length → ∀ b f, b < 256 → f ≤ b → isR cl f → f < B → cl f = cl b → ∃ x ∈ q, x.1 = δ (qs q p) b ∧ code x.2 ≤ 256 * code (qw q p) + b + 1
 ple : p ≤ q.length
section
variable {δ : Nat → Nat → Nat} {G : Nat → Prop} {cl : Nat → Int} {k p B : Nat} {q : Q}
theorem Bg.start (hS : Stp δ G cl k) : Bg δ G cl k 0 0 [(0, [])] := by
 refine ⟨⟨rfl, rfl, by simp⟩, ?_, ?_, ?_, ?_, ?_, ?_, ?_⟩
 ·intro x hx
  rw [List.mem_singleton] at hx
  subst hx
  exact ⟨hS.zero.1, hS.zero.2, fun b hb => (nomatch hb), rfl⟩
 ·intro i j hij hj; simp at hj; omega
 ·intro i j hij hj; simp at hj; omega
 ·intro _ x hx
  rw [List.mem_singleton] at hx
  subst hx
  have : qw [(0, [])] 0 = [] := rfl
  rw [this, code_nil]
  show code [] < _
  rw [code_nil]; omega
 ·intro i hi; omega
 ·intro _ b f _ _ _ hf; omega
 ·simp
theorem Bg.skip (h : Bg δ G cl k p B q) (B' : Nat) (hB : B ≤ B') (hn : ∀ f, B ≤ f → f < B' → f < 256 → ¬ isR cl f) : Bg δ G cl k p B' q := by
 refine ⟨h.root, h.lt, h.inj, h.sorted, ?_, h.done, ?_, h.ple⟩
 ·intro hp x hx
  have := h.top hp x hx
  omega
 ·intro hp b f hb hfb hf hfB hc
  by_cases hlt : f < B
  ·exact h.part hp b f hb hfb hf hlt hc
  ·exact absurd hf (hn f (by omega) hfB (by omega))
theorem Bg.old (hS : Stp δ G cl k) (h : Bg δ G cl k p B q) (hp : p < q.length) (hB : B < 256) (hr : isR cl B) (hm : ∃ x ∈ q, x.1 = δ (qs q p) B) : Bg δ G cl k p (B + 1) q := by
 obtain ⟨p1, p2, p3, p4⟩ := h.lt _ (q_mem hp)
 refine ⟨h.root, h.lt, h.inj, h.sorted, ?_, h.done, ?_, h.ple⟩
 ·intro hp x hx
  have := h.top hp x hx
  omega
 ·intro hp b f hb hfb hf hfB hc
  by_cases hlt : f < B
  ·exact h.part hp b f hb hfb hf hlt hc
  ·have : f = B := by omega
   subst this
   obtain ⟨x, hx, he⟩ := hm
   refine ⟨x, hx, by rw [he, hS.cl _ b f p1 p2 hB hb hc], ?_⟩
   have := h.top hp x hx
   omega
theorem Bg.new (hS : Stp δ G cl k) (h : Bg δ G cl k p B q) (hp : p < q.length) (hB : B < 256) (hr : isR cl B) (hm : ∀ x ∈ q, x.1 ≠ δ (qs q p) B) : Bg δ G cl k p (B + 1) (q ++ [(δ (qs q p) B, qw q p ++ [B])]) := by
 obtain ⟨p1, p2, p3, p4⟩ := h.lt _ (q_mem hp)
 have hlen : (q ++ [(δ (qs q p) B, qw q p ++ [B])]).length = q.length + 1 := by simp
 refine ⟨?_, ?_, ?_, ?_, ?_, ?_, ?_, ?_⟩
 ·obtain ⟨r1, r2, r3⟩ := h.root
  exact ⟨by rw [qs_old r3]; exact r1, by rw [qw_old r3]; exact r2, by omega⟩
 ·intro x hx
  rcases List.mem_append.1 hx with hx | hx
  ·exact h.lt x hx
  ·rw [List.mem_singleton] at hx
   subst hx
   obtain ⟨d1, d2⟩ := hS.lt _ B p1 p2 hB
   refine ⟨d1, d2, ?_, ?_⟩
   ·intro b hb
    rcases List.mem_append.1 hb with hb | hb
    ·exact p3 b hb
    ·rw [List.mem_singleton] at hb; omega
   ·rw [run_snoc]
    show δ (run δ 0 (qw q p)) B = _
    rw [show run δ 0 (qw q p) = qs q p from p4]
 ·intro i j hij hj
  rw [hlen] at hj
  by_cases hjl : j < q.length
  ·rw [qs_old hjl, qs_old (by omega)]; exact h.inj i j hij hjl
  ·have : j = q.length := by omega
   subst this
   rw [qs_new, qs_old hij]
   exact hm _ (q_mem hij)
 ·intro i j hij hj
  rw [hlen] at hj
  by_cases hjl : j < q.length
  ·rw [qw_old hjl, qw_old (by omega)]; exact h.sorted i j hij hjl
  ·have : j = q.length := by omega
   subst this
   rw [qw_new, qw_old hij, code_snoc]
   have := h.top hp _ (q_mem hij)
   exact this
 ·intro _ x hx
  rw [qw_old hp]
  rcases List.mem_append.1 hx with hx | hx
  ·have := h.top hp x hx; omega
  ·rw [List.mem_singleton] at hx
   subst hx
   rw [code_snoc]; omega
 ·intro i hi b hb
  obtain ⟨x, hx, h1, h2⟩ := h.done i hi b hb
  have hi' : i < q.length := by have := h.ple; omega
  rw [qs_old hi', qw_old hi']
  exact ⟨x, List.mem_append_left _ hx, h1, h2⟩
 ·intro _ b f hb hfb hf hfB hc
  rw [qs_old hp, qw_old hp]
  by_cases hlt : f < B
  ·obtain ⟨x, hx, h1, h2⟩ := h.part hp b f hb hfb hf hlt hc
   exact ⟨x, List.mem_append_left _ hx, h1, h2⟩
  ·have : f = B := by omega
   subst this
   refine ⟨_, List.mem_append_right _ (List.mem_singleton.2 rfl), by rw [hS.cl _ b f p1 p2 hB hb hc], ?_⟩
   rw [code_snoc]; omega
 ·have := h.ple; omega
theorem Bg.next (h : Bg δ G cl k p 256 q) (hp : p < q.length) : Bg δ G cl k (p + 1) 0 q := by
 refine ⟨h.root, h.lt, h.inj, h.sorted, ?_, ?_, ?_, by omega⟩
 ·intro hp1 x hx
  have h1 := h.top hp x hx
  have h2 := h.sorted p (p + 1) (by omega) hp1
  omega
 ·intro i hi b hb
  by_cases hip : i < p
  ·exact h.done i hip b hb
  ·have : i = p := by omega
   subst this
   obtain ⟨f, f1, f2, f3⟩ := r_of cl b
   exact h.part hp b f hb f1 f2 (by omega) f3
 ·intro _ b f _ _ _ hf; omega
theorem Bg.size (h : Bg δ G cl k p B q) : q.length ≤ k := by
 have hn : (q.map (·.1)).Nodup := by
  unfold List.Nodup
  rw [List.pairwise_iff_getElem]
  intro i j hi hj hij
  rw [List.getElem_map, List.getElem_map]
  rw [List.length_map] at hi hj
  have := h.inj i j hij hj
  unfold qs at this
  rwa [List.getD_eq_getElem?_getD, List.getD_eq_getElem?_getD, List.getElem?_eq_getElem hi, List.getElem?_eq_getElem hj] at this
 have := nodup_len (q.map (·.1)) (List.range k) hn (fun x hx => by
  rw [List.mem_map] at hx
  obtain ⟨y, hy, rfl⟩ := hx
  exact List.mem_range.2 (h.lt y hy).1)
 rwa [List.length_map, List.length_range] at this
theorem Bg.all (h : Bg δ G cl k q.length 0 q) : ∀ (n : Nat) (v : List Nat), v.length = n → isBy v → ∃ i, i < q.length ∧ qs q i = run δ 0 v ∧ code (qw q i) ≤ code v
 | 0, v, hn, _ => by
  have : v = [] := List.length_eq_zero_iff.1 hn
  subst this
  obtain ⟨r1, r2, r3⟩ := h.root
  exact ⟨0, r3, r1, by rw [r2]; exact Nat.le_refl _⟩
 | n + 1, v, hn, hv => by
  rcases snoc_cases v with rfl | ⟨u, b, rfl⟩
  ·simp at hn
  ·have hb := hv b (by simp)
   rw [code_snoc, run_snoc]
   obtain ⟨i, h1, h2, h3⟩ := h.all n u (by simpa using hn) (fun x hx => hv x (by simp [hx]))
   obtain ⟨x, hx, x1, x2⟩ := h.done i h1 b hb
   obtain ⟨j, hj, rfl⟩ := q_of_mem hx
   exact ⟨j, hj, by rw [← h2]; exact x1, by simp only at x2; omega⟩
theorem Bg.inj_iff (h : Bg δ G cl k p B q) {i j : Nat} (hi : i < q.length) (hj : j < q.length) (he : qs q i = qs q j) : i = j := by
 rcases Nat.lt_trichotomy i j with hlt | heq | hgt
 ·exact absurd he (h.inj i j hlt hj)
 ·exact heq
 ·exact absurd he.symm (h.inj j i hgt hi)
end
end Go.Ab.T

/- A machine's parts, put in order: its own form. -/
namespace Go.Ab.T
open Go Go.Ab
set_option linter.unusedVariables false
set_option linter.unusedSimpArgs false
structure Prt (C : List Int) (N : List (List Int)) (E : List Bool) (k : Nat) (p : Nat → Nat) : Prop where
 cong : ∀ s t b, s < k → t < k → b < 256 → p s = p t → p (dl C N s b) = p (dl C N t b)
 ends : ∀ s t, s < k → t < k → p s = p t → en E s = en E t
 fin : gapless C → ∀ s t, s < k → t < k → eqs C N E s t → p s = p t
 lt : ∀ s, s < k → p s < k
 zero : p 0 = 0
structure Pts (C : List Int) (N : List (List Int)) (E : List Bool) (k : Nat) (p : Nat → Nat) (r : Nat → Nat) : Prop extends Prt C N E k p where
 rep : ∀ s, s < k → r (p s) < k ∧ p (r (p s)) = p s
def dq (C : List Int) (N : List (List Int)) (p r : Nat → Nat) (P b : Nat) : Nat := p (dl C N (r P) b)
def Gq (C : List Int) (N : List (List Int)) (p : Nat → Nat) (P : Nat) : Prop := ∃ v, isBy v ∧ p (dls C N 0 v) = P
section
variable {C : List Int} {N : List (List Int)} {E : List Bool} {k m : Nat} {p r : Nat → Nat}
theorem dq_p (h : Mch C N E k m) (hp : Pts C N E k p r) {s b : Nat} (hs : s < k) (hb : b < 256) : dq C N p r (p s) b = p (dl C N s b) := by
 obtain ⟨r1, r2⟩ := hp.rep s hs
 unfold dq
 exact hp.cong _ _ b r1 hs hb r2
theorem Prt.eqs (h : Mch C N E k m) (hp : Prt C N E k p) : ∀ (v : List Nat) (s t : Nat), s < k → t < k → p s = p t → isBy v → en E (dls C N s v) = en E (dls C N t v)
 | [], s, t, hs, ht, he, _ => hp.ends s t hs ht he
 | b :: v, s, t, hs, ht, he, hv => by
  have hb := hv b (by simp)
  exact Prt.eqs h hp v _ _ (h.dl_lt hs hb) (h.dl_lt ht hb) (hp.cong s t b hs ht hb he) fun x hx => hv x (by simp [hx])
theorem run_p (h : Mch C N E k m) (hp : Pts C N E k p r) : ∀ (v : List Nat) (s : Nat), s < k → isBy v → run (dq C N p r) (p s) v = p (dls C N s v)
 | [], s, hs, _ => rfl
 | b :: v, s, hs, hv => by
  have hb := hv b (by simp)
  simp only [run, dls]
  rw [dq_p h hp hs hb]
  exact run_p h hp v _ (h.dl_lt hs hb) fun x hx => hv x (by simp [hx])
theorem stp_q (h : Mch C N E k m) (hp : Pts C N E k p r) (cl : Nat → Int)
  (hcl : ∀ P b f, Gq C N p P → f < 256 → b < 256 → cl f = cl b → dq C N p r P f = dq C N p r P b) : Stp (dq C N p r) (Gq C N p) cl k := by
 refine ⟨⟨h.k1, [], fun b hb => (nomatch hb), hp.zero⟩, ?_, fun P b f _ hG hf hb hc => hcl P b f hG hf hb hc⟩
 rintro P b hP ⟨v, hv, rfl⟩ hb
 have hlt := h.dls_lt h.k1 hv
 rw [dq_p h hp hlt hb]
 refine ⟨hp.lt _ (h.dl_lt hlt hb), v ++ [b], ?_, by rw [dls_snoc]⟩
 intro x hx
 rcases List.mem_append.1 hx with hx | hx
 ·exact hv x hx
 ·rw [List.mem_singleton] at hx; omega
structure Laid (C : List Int) (N : List (List Int)) (E : List Bool) (p r : Nat → Nat) (q : Q) (C' : List Int) (N' : List (List Int)) (E' : List Bool) (m' : Nat) : Prop where
 cl : C'.length = 256
 clr : ∀ b, b < 256 → ∃ a : Nat, a < m' ∧ C'.getD b 0 = (a : Int)
 inh : ∀ a, a < m' → ∃ b, b < 256 ∧ C'.getD b 0 = (a : Int)
 m2 : m' ≤ 256
 same : ∀ b b', b < 256 → b' < 256 → (C'.getD b 0 = C'.getD b' 0 ↔ ∀ i, i < q.length → dq C N p r (qs q i) b = dq C N p r (qs q i) b')
 num : ∀ b, b < 256 → isRep C' b → C'.getD b 0 = (((List.range b).countP (repB C') : Nat) : Int)
 nl : N'.length = q.length
 row : ∀ i, i < q.length → (N'.getD i []).length = m' ∧ ∀ b, b < 256 → ∃ j : Nat, j < q.length ∧ (N'.getD i []).getD (C'.getD b 0).toNat 0 = (j : Int) ∧ qs q j = dq C N p r (qs q i) b
 el : E'.length = q.length
 ends : ∀ i, i < q.length → en E' i = en E (r (qs q i))
theorem laid_canon (h : Mch C N E k m) (hp : Pts C N E k p r) {cl : Nat → Int} {q : Q} (hq : Bg (dq C N p r) (Gq C N p) cl k q.length 0 q) {C' : List Int} {N' : List (List Int)} {E' : List Bool} {m' : Nat} (hl : Laid C N E p r q C' N' E' m') :
  Mch C' N' E' q.length m' ∧ gapless C' ∧ (gapless C → Canon C' N' E' q.length m') ∧ Lang C N E C' N' E' := by
 have hk2 := h.k2
 obtain ⟨z1, z2, z3⟩ := hq.root
 have hsz := hq.size
 have hm1 : 1 ≤ m' := by obtain ⟨a, ha, _⟩ := hl.clr 0 (by omega); omega
 have hM : Mch C' N' E' q.length m' := by
  refine ⟨hl.cl, hl.clr, hl.inh (m' - 1) (by omega), hl.nl, hl.el, z3, by omega, hm1, hl.m2, fun i hi => ?_⟩
  obtain ⟨r1, r2⟩ := hl.row i hi
  refine ⟨r1, fun a ha => ?_⟩
  obtain ⟨b, hb, he⟩ := hl.inh a ha
  obtain ⟨j, j1, j2, _⟩ := r2 b hb
  rw [he, Int.toNat_natCast] at j2
  exact ⟨j, j1, j2⟩
 have hstep : ∀ i, i < q.length → ∀ b, b < 256 → dl C' N' i b < q.length ∧ qs q (dl C' N' i b) = dq C N p r (qs q i) b := by
  intro i hi b hb
  obtain ⟨j, j1, j2, j3⟩ := (hl.row i hi).2 b hb
  have : dl C' N' i b = j := by unfold dl; rw [j2, Int.toNat_natCast]
  rw [this]; exact ⟨j1, j3⟩
 have hrun : ∀ (v : List Nat) (i : Nat), i < q.length → isBy v → dls C' N' i v < q.length ∧ qs q (dls C' N' i v) = run (dq C N p r) (qs q i) v := by
  intro v
  induction v with
  | nil => intro i hi _; exact ⟨hi, rfl⟩
  | cons b v ih =>
   intro i hi hv
   have hb := hv b (by simp)
   obtain ⟨s1, s2⟩ := hstep i hi b hb
   simp only [dls, run]
   rw [← s2]
   exact ih _ s1 fun x hx => hv x (by simp [hx])
 have hpart : ∀ i, i < q.length → ∃ s, s < k ∧ p s = qs q i := by
  intro i hi
  obtain ⟨_, ⟨v, hv, he⟩, _, _⟩ := hq.lt _ (q_mem hi)
  exact ⟨_, h.dls_lt h.k1 hv, he⟩
 have hen : ∀ i, i < q.length → ∀ s, s < k → p s = qs q i → en E' i = en E s := by
  intro i hi s hs he
  rw [hl.ends i hi, ← he]
  obtain ⟨r1, r2⟩ := hp.rep s hs
  exact hp.ends _ _ r1 hs r2
 have hlang : ∀ i, i < q.length → ∀ s, s < k → p s = qs q i → ∀ v, isBy v → en E' (dls C' N' i v) = en E (dls C N s v) := by
  intro i hi s hs he v hv
  obtain ⟨a1, a2⟩ := hrun v i hi hv
  refine hen _ a1 _ (h.dls_lt hs hv) ?_
  rw [a2, ← he, run_p h hp v s hs hv]
 refine ⟨hM, gapless_of hl.clr hl.inh, fun hg => ⟨hM, gapless_of hl.clr hl.inh, ⟨fun j => qw q j, fun j hj => ?_, fun i j hij hj => hq.sorted i j hij hj⟩, fun i j hi hj he => ?_, fun b b' hb hb' he => ?_, hl.num⟩, fun v hv => ?_⟩
 ·obtain ⟨_, _, b3, b4⟩ := hq.lt _ (q_mem hj)
  simp only at b3 b4
  refine ⟨b3, ?_, fun v hv hvj => ?_⟩
  ·obtain ⟨a1, a2⟩ := hrun (qw q j) 0 z3 b3
   rw [z1, b4] at a2
   exact hq.inj_iff a1 hj a2
  ·obtain ⟨i, i1, i2, i3⟩ := hq.all v.length v rfl hv
   obtain ⟨a1, a2⟩ := hrun v 0 z3 hv
   rw [z1, ← i2, hvj] at a2
   have : j = i := hq.inj_iff hj i1 a2
   subst this
   exact i3
 ·obtain ⟨s, s1, s2⟩ := hpart i hi
  obtain ⟨t, t1, t2⟩ := hpart j hj
  refine hq.inj_iff hi hj ?_
  rw [← s2, ← t2]
  refine hp.fin hg s t s1 t1 ?_
  intro v hv
  rw [← hlang i hi s s1 s2 v hv, ← hlang j hj t t1 t2 v hv]
  exact he v hv
 ·refine (hl.same b b' hb hb').2 fun i hi => ?_
  rw [← (hstep i hi b hb).2, ← (hstep i hi b' hb').2, he i hi]
 ·exact (hlang 0 z3 0 h.k1 (by rw [hp.zero, z1]) v hv).symm
end
end Go.Ab.T

/- Which states are one: least.parts. -/
namespace Go.Ab.T
open Go Go.Ab
set_option linter.unusedVariables false
set_option linter.unusedSimpArgs false
section
variable {α : Type} [DecidableEq α]
def fstO (σ : Nat → α) (f : Nat) : Bool := (List.range f).all fun u => !decide (σ u = σ f)
theorem fstO_iff {σ : Nat → α} {f : Nat} : fstO σ f = true ↔ ∀ u, u < f → σ u ≠ σ f := by
 unfold fstO
 rw [List.all_eq_true]
 simp [List.mem_range]
theorem fo_ex (σ : Nat → α) : ∀ t : Nat, ∃ f, f ≤ t ∧ fstO σ f = true ∧ σ f = σ t := by
 intro t
 induction t using Nat.strongRecOn with
 | _ t ih =>
  cases h : fstO σ t with
  | true => exact ⟨t, Nat.le_refl _, h, rfl⟩
  | false =>
   have : ¬ ∀ u, u < t → σ u ≠ σ t := fun q => by rw [fstO_iff.2 q] at h; cases h
   obtain ⟨u, hu⟩ := Classical.not_forall.1 this
   obtain ⟨h1, h2⟩ := Classical.not_imp.1 hu
   obtain ⟨f, q1, q2, q3⟩ := ih u h1
   exact ⟨f, by omega, q2, by rw [q3]; exact Classical.not_not.1 h2⟩
noncomputable def fo (σ : Nat → α) (t : Nat) : Nat := (fo_ex σ t).choose
theorem fo_spec (σ : Nat → α) (t : Nat) : fo σ t ≤ t ∧ fstO σ (fo σ t) = true ∧ σ (fo σ t) = σ t := (fo_ex σ t).choose_spec
theorem fst_eq {σ : Nat → α} {f g : Nat} (hf : fstO σ f = true) (hg : fstO σ g = true) (h : σ f = σ g) : f = g := by
 rcases Nat.lt_trichotomy f g with q | q | q
 ·exact absurd h (fstO_iff.1 hg f q)
 ·exact q
 ·exact absurd h.symm (fstO_iff.1 hf g q)
theorem fo_iff {σ : Nat → α} {s t : Nat} : fo σ s = fo σ t ↔ σ s = σ t := by
 obtain ⟨a1, a2, a3⟩ := fo_spec σ s
 obtain ⟨b1, b2, b3⟩ := fo_spec σ t
 constructor
 ·intro h; rw [← a3, ← b3, h]
 ·intro h; exact fst_eq a2 b2 (by rw [a3, b3, h])
theorem fo_of_fst {σ : Nat → α} {t : Nat} (h : fstO σ t = true) : fo σ t = t := by
 obtain ⟨a1, a2, a3⟩ := fo_spec σ t
 exact fst_eq a2 h a3
theorem fo_min {σ : Nat → α} {s t : Nat} (h : σ s = σ t) : fo σ t ≤ s := by
 have := (fo_spec σ s).1
 rwa [fo_iff.2 h] at this
def nf (σ : Nat → α) (c : Nat) : Nat := (List.range c).countP (fstO σ)
theorem nf_succ (σ : Nat → α) (c : Nat) : nf σ (c + 1) = nf σ c + if fstO σ c = true then 1 else 0 := by
 unfold nf
 rw [List.range_succ, List.countP_append, List.countP_cons, List.countP_nil, Nat.zero_add]
theorem nf_le (σ : Nat → α) (c : Nat) : nf σ c ≤ c := by
 unfold nf
 have := List.countP_le_length (p := fstO σ) (l := List.range c)
 rwa [List.length_range] at this
theorem nf_mono (σ : Nat → α) : ∀ (a d : Nat), nf σ a ≤ nf σ (a + d)
 | a, 0 => Nat.le_refl _
 | a, d + 1 => by
  have := nf_mono σ a d
  rw [← Nat.add_assoc, nf_succ]; omega
theorem nf_lt {σ : Nat → α} {f c : Nat} (hf : fstO σ f = true) (h : f < c) : nf σ f < nf σ c := by
 have h1 := nf_succ σ f
 rw [hf, if_pos rfl] at h1
 have := nf_mono σ (f + 1) (c - (f + 1))
 rw [show f + 1 + (c - (f + 1)) = c by omega] at this
 omega
noncomputable def ix (σ : Nat → α) (t : Nat) : Nat := nf σ (fo σ t)
theorem ix_iff {σ : Nat → α} {s t : Nat} : ix σ s = ix σ t ↔ σ s = σ t := by
 refine Iff.trans ?_ fo_iff
 unfold ix
 constructor
 ·intro h
  rcases Nat.lt_trichotomy (fo σ s) (fo σ t) with q | q | q
  ·have := nf_lt (fo_spec σ s).2.1 q; omega
  ·exact q
  ·have := nf_lt (fo_spec σ t).2.1 q; omega
 ·intro h; rw [h]
theorem ix_lt {σ : Nat → α} {t c : Nat} (h : t < c) : ix σ t < nf σ c := by
 have := (fo_spec σ t).1
 exact nf_lt (fo_spec σ t).2.1 (by omega)
theorem ix_zero (σ : Nat → α) : ix σ 0 = 0 := by
 have := (fo_spec σ 0).1
 unfold ix
 rw [show fo σ 0 = 0 by omega]; rfl
theorem ix_fst {σ : Nat → α} {t : Nat} (h : fstO σ t = true) : ix σ t = nf σ t := by unfold ix; rw [fo_of_fst h]
end
theorem nf_refine {α β : Type} [DecidableEq α] [DecidableEq β] {σ : Nat → α} {τ : Nat → β} {k : Nat} (h : ∀ s t, s < k → t < k → τ s = τ t → σ s = σ t) :
  nf σ k ≤ nf τ k ∧ (nf τ k = nf σ k → ∀ s t, s < k → t < k → σ s = σ t → τ s = τ t) := by
 have hsub : ∀ x ∈ List.range k, fstO σ x = true → fstO τ x = true := by
  intro x hx hs
  have hxk := List.mem_range.1 hx
  rw [fstO_iff] at hs ⊢
  intro u hu he
  exact hs u hu (h u x (by omega) hxk he)
 have hle : nf σ k ≤ nf τ k := List.countP_mono_left hsub
 refine ⟨hle, fun heq s t hs ht he => ?_⟩
 have hback : ∀ x, x < k → fstO τ x = true → fstO σ x = true := by
  have key : ∀ l : List Nat, (∀ x ∈ l, fstO σ x = true → fstO τ x = true) → l.countP (fstO τ) = l.countP (fstO σ) → ∀ x ∈ l, fstO τ x = true → fstO σ x = true := by
   intro l
   induction l with
   | nil => intro _ _ x hx; cases hx
   | cons a r ih =>
    intro hsub' hc x hx hτ
    rw [List.countP_cons, List.countP_cons] at hc
    have hr : r.countP (fstO σ) ≤ r.countP (fstO τ) := List.countP_mono_left fun y hy => hsub' y (by simp [hy])
    have ha : fstO σ a = true → fstO τ a = true := hsub' a (by simp)
    cases hsa : fstO σ a with
    | true =>
     rw [hsa, ha hsa] at hc
     rcases List.mem_cons.1 hx with rfl | hx
     ·exact hsa
     ·exact ih (fun y hy => hsub' y (by simp [hy])) (by simpa using hc) x hx hτ
    | false =>
     rw [hsa] at hc
     cases hta : fstO τ a with
     | true => rw [hta] at hc; simp at hc; omega
     | false =>
      rw [hta] at hc
      rcases List.mem_cons.1 hx with rfl | hx
      ·rw [hta] at hτ; cases hτ
      ·exact ih (fun y hy => hsub' y (by simp [hy])) (by simpa using hc) x hx hτ
  intro x hx
  exact key (List.range k) hsub heq x (List.mem_range.2 hx)
 obtain ⟨a1, a2, a3⟩ := fo_spec τ s
 obtain ⟨b1, b2, b3⟩ := fo_spec τ t
 have e1 := h _ _ (by omega) hs a3
 have e2 := h _ _ (by omega) ht b3
 have := fst_eq (hback _ (by omega) a2) (hback _ (by omega) b2) (by rw [e1, e2, he])
 rw [← a3, ← b3, this]
def enc (v : Nat) : List Int := [((v % 256 : Nat) : Int), ((v / 256 % 256 : Nat) : Int)]
def markL (l : List Nat) : List Int := l.flatMap enc
theorem markL_inj : ∀ (l l' : List Nat), (∀ x ∈ l, x < 65536) → (∀ x ∈ l', x < 65536) → markL l = markL l' → l = l'
 | [], [], _, _, _ => rfl
 | [], b :: l', _, _, h => by simp [markL, enc] at h
 | a :: l, [], _, _, h => by simp [markL, enc] at h
 | a :: l, b :: l', h1, h2, h => by
  have ha := h1 a (by simp)
  have hb := h2 b (by simp)
  unfold markL at h
  rw [List.flatMap_cons, List.flatMap_cons] at h
  simp only [enc, List.cons_append, List.nil_append, List.cons.injEq] at h
  obtain ⟨e1, e2, e3⟩ := h
  rw [show a = b by omega, markL_inj l l' (fun x hx => h1 x (by simp [hx])) (fun x hx => h2 x (by simp [hx])) e3]
theorem markL_len (l : List Nat) : (markL l).length = 2 * l.length := by
 unfold markL
 induction l with
 | nil => rfl
 | cons a r ih => rw [List.flatMap_cons, List.length_append, ih]; simp [enc]; omega
theorem enc_ok (v : Nat) (hv : v < 65536) : [IntKind.u8.wrap (v : Int), IntKind.u8.wrap (shr .i64 (v : Int) 8)] = enc v := by
 have h2 : shr .i64 (v : Int) 8 = ((v / 256 : Nat) : Int) := by
  unfold shr
  have hb : min (8 : Int).toNat IntKind.i64.bits = 8 := by decide
  rw [wall_eq, hb, Int.fdiv_eq_ediv_of_nonneg _ (by decide)]
  have e : (2 : Int) ^ 8 = 256 := by decide
  rw [e]; omega
 rw [h2]
 unfold enc
 simp only [IntKind.wrap_u8]
 congr 1
def rowN (N : List (List Int)) (s a : Nat) : Nat := ((N.getD s []).getD a 0).toNat
def sig (N : List (List Int)) (m : Nat) (p : Nat → Nat) (s : Nat) : List Nat := p s :: (List.range m).map fun a => p (rowN N s a)
theorem sig_iff {N : List (List Int)} {m : Nat} {p : Nat → Nat} {s t : Nat} : sig N m p s = sig N m p t ↔ p s = p t ∧ ∀ a, a < m → p (rowN N s a) = p (rowN N t a) := by
 unfold sig
 rw [List.cons.injEq]
 constructor
 ·rintro ⟨h1, h2⟩
  refine ⟨h1, fun a ha => ?_⟩
  have := congrArg (fun l => l[a]?) h2
  simp only [List.getElem?_map, List.getElem?_range ha, Option.map_some, Option.some.injEq] at this
  exact this
 ·rintro ⟨h1, h2⟩
  refine ⟨h1, List.map_congr_left fun a ha => h2 a (List.mem_range.1 ha)⟩
def PL (k : Nat) (p : Nat → Nat) (l : List Int) : Prop := l.length = k ∧ ∀ s, s < k → l.getD s 0 = ((p s : Nat) : Int)
theorem mget_mset' {α β : Type} [DecidableEq α] (m : List (α × β)) (a b : α) (v : β) : mget (mset m a v) b = if b = a then some v else mget m b := by
 unfold mget mset
 induction m with
 | nil =>
  simp only [mput, mfind]
  by_cases h : b = a
  ·rw [decide_eq_true h, if_pos h]; rfl
  ·rw [decide_eq_false h, if_neg h]; rfl
 | cons x r ih =>
  obtain ⟨c, w⟩ := x
  simp only [mput]
  by_cases hac : a = c
  ·rw [decide_eq_true hac]
   simp only [cond_true, mfind]
   by_cases h : b = a
   ·rw [decide_eq_true h, if_pos h]; rfl
   ·have hbc : ¬ b = c := by rw [← hac]; exact h
    rw [decide_eq_false h, decide_eq_false hbc, if_neg h]; rfl
  ·rw [decide_eq_false hac]
   simp only [cond_false, mfind]
   by_cases hbc : b = c
   ·rw [decide_eq_true hbc]
    have : ¬ b = a := fun h => hac (by rw [← h, hbc])
    rw [if_neg this]; rfl
   ·rw [decide_eq_false hbc]
    simp only [cond_false]
    exact ih
theorem mset_len {α β : Type} [DecidableEq α] (m : List (α × β)) (a : α) (v : β) (h : mget m a = none) : (mset m a v).length = m.length + 1 := by
 unfold mget at h
 unfold mset
 induction m with
 | nil => rfl
 | cons x r ih =>
  obtain ⟨c, w⟩ := x
  simp only [mfind] at h
  simp only [mput]
  by_cases hac : a = c
  ·rw [decide_eq_true hac] at h; cases h
  ·rw [decide_eq_false hac] at h ⊢
   simp only [cond_false] at h ⊢
   rw [List.length_cons, ih h, List.length_cons]
section
variable {R : Type} {C : List Int} {N : List (List Int)} {E : List Bool} {k m : Nat}
theorem mark_ok (h : Mch C N E k m) (kf : Nat) (hkf : 1000 ≤ kf) (p : Nat → Nat) (hp : ∀ s, s < k → p s < 65536) (l : List Int) (hl : PL k p l) (s : Nat) (hs : s < k) (K : List Int → Option R) : yy14 kf ((p s : Nat) : Int) (N.getD s []) l K = K (markL (sig N m p s)) := by
 unfold yy14 yy14_b
 have hm2 := h.m2
 obtain ⟨r1, r2⟩ := h.row s hs
 rw [enc_ok (p s) (hp s hs)]
 refine loop_inv (fun kk a (acc : List Int) => yy14_l3 kf kk l (N.getD s []) ((N.getD s []).length : Int) (fun v9 => K v9) (a : Int) acc) _ m 0
  (fun a acc => acc = markL (p s :: (List.range a).map fun a => p (rowN N s a)) ∧ a ≤ m) ?_ ?_ m kf 0 _ (by omega) (by omega) ⟨by simp [markL], by omega⟩
 ·rintro kk acc ⟨rfl, _⟩
  rw [yy14_l3]
  unfold yy14_l3_b
  rw [decide_eq_false (show ¬ ((m : Int) < ((N.getD s []).length : Int)) by omega), cond_false]
  rfl
 ·rintro kk a acc _ ha ⟨rfl, _⟩
  left
  obtain ⟨q1, q2⟩ := h.row_lt hs ha
  have hrn : rowN N s a = ((N.getD s []).getD a 0).toNat := rfl
  rw [← hrn] at q1 q2
  refine ⟨_, ⟨rfl, by omega⟩, ?_⟩
  have hml : (markL (p s :: (List.range a).map fun a => p (rowN N s a))).length ≤ 1000 := by rw [markL_len]; simp; omega
  rw [yy14_l3]
  unfold yy14_l3_b
  rw [decide_eq_true (show (a : Int) < ((N.getD s []).length : Int) by omega), cond_true, gdd (by omega), gd_true rfl, Int.toNat_natCast, q2, gdd (by omega), gdd (by have := hl.1; omega), gdd (by omega), gdd (by have := hl.1; omega), Int.toNat_natCast, hl.2 _ q1, enc_ok _ (hp _ q1), gdd (by rw [small_eq]; simp [enc]; omega), wi_1 a (by omega)]
  congr 1
  unfold markL
  rw [List.range_succ, List.map_append, List.flatMap_cons, List.flatMap_cons, List.flatMap_append, List.append_assoc]
  simp
theorem l12_ok (h : Mch C N E k m) (kf k0 : Nat) (hkf : 1000 ≤ kf) (hk0 : k < k0) (p : Nat → Nat) (hp : ∀ s, s < k → p s < 65536) (l : List Int) (hl : PL k p l) (v22 : Int)
  (Ke : Int → (List Int) → (List (List Int)) → (List Bool) → (List Int) → (List (List Int × Int)) → Option R) (T : Option R)
  (hT : ∀ (l' : List Int) (mp : List (List Int × Int)), PL k (ix (sig N m p)) l' → mp.length = nf (sig N m p) k → Ke v22 C N E l' mp = T) :
  yy16_l12 kf k0 v22 N (N.length : Int) C N E l Ke 0 (List.replicate k (0 : Int)) ([] : List (List Int × Int)) = T := by
 have hN := h.nl; have hk2 := h.k2
 have hinj : ∀ s t, s < k → t < k → (markL (sig N m p s) = markL (sig N m p t) ↔ sig N m p s = sig N m p t) := by
  intro s t hs ht
  have hb : ∀ s, s < k → ∀ x ∈ sig N m p s, x < 65536 := by
   intro s hs x hx
   unfold sig at hx
   rcases List.mem_cons.1 hx with rfl | hx
   ·exact hp s hs
   ·rw [List.mem_map] at hx
    obtain ⟨a, ha, rfl⟩ := hx
    exact hp _ (h.row_lt hs (List.mem_range.1 ha)).1
  exact ⟨fun q => markL_inj _ _ (hb s hs) (hb t ht) q, fun q => by rw [q]⟩
 generalize hσ : sig N m p = σ at hinj hT
 refine loop_inv (fun kk s (acc : List Int × List (List Int × Int)) => yy16_l12 kf kk v22 N (N.length : Int) C N E l Ke (s : Int) acc.1 acc.2) T k 0
  (fun s acc => acc.1.length = k ∧ (∀ t, t < s → acc.1.getD t 0 = ((ix σ t : Nat) : Int)) ∧ acc.2.length = nf σ s ∧ (∀ t, t < s → mget acc.2 (markL (σ t)) = some ((ix σ t : Nat) : Int)) ∧
   ∀ t, t < k → (∀ u, u < s → σ u ≠ σ t) → mget acc.2 (markL (σ t)) = none) ?_ ?_ k k0 0 (List.replicate k (0 : Int), []) (by omega) (by omega)
  ⟨List.length_replicate, fun t ht => by omega, rfl, fun t ht => by omega, fun t _ _ => rfl⟩
 ·rintro kk ⟨l', mp⟩ ⟨h1, h2, h3, h4, h5⟩
  rw [yy16_l12]
  unfold yy16_l12_b
  rw [decide_eq_false (show ¬ ((k : Int) < (N.length : Int)) by omega), cond_false]
  exact hT l' mp ⟨h1, h2⟩ h3
 ·rintro kk s ⟨l', mp⟩ _ hs ⟨h1, h2, h3, h4, h5⟩
  simp only at h1 h2 h3 h4 h5
  left
  have hnf := nf_le σ s
  rw [yy16_l12]
  unfold yy16_l12_b
  rw [decide_eq_true (show (s : Int) < (N.length : Int) by omega), cond_true, gdd (by omega), gdd (by omega), gd_true rfl, gdd (by have := hl.1; omega), Int.toNat_natCast, hl.2 s hs, mark_ok h kf hkf p hp l hl s hs, hσ]
  have hw := wi_1 s (show s < 4000000000000000000 by omega)
  have g0 : decide (0 ≤ (s : Int)) = true := decide_eq_true (by omega)
  have g1 : decide ((s : Int) < (l'.length : Int)) = true := decide_eq_true (by omega)
  have g2 : decide (mp.length < SMALL) = true := decide_eq_true (by rw [small_eq]; omega)
  have hset : ∀ (v : Int) (t : Nat), (l'.set s v).getD t 0 = if s = t ∧ t < l'.length then v else l'.getD t 0 := fun v t => getD_set' l' s t v 0
  cases hf : fstO σ s with
  | true =>
   have hno := fstO_iff.1 hf
   have hnone := h5 s hs hno
   refine ⟨(l'.set s (mp.length : Int), mset mp (markL (σ s)) (mp.length : Int)), ⟨by simp only; rw [List.length_set]; exact h1, fun t ht => ?_, ?_, fun t ht => ?_, fun t ht hu => ?_⟩, ?_⟩
   ·simp only [hset]
    by_cases hst : s = t
    ·subst hst
     rw [if_pos ⟨rfl, by omega⟩, h3, ix_fst hf]
    ·rw [if_neg (fun q => hst q.1)]; exact h2 t (by omega)
   ·simp only
    rw [mset_len _ _ _ hnone, h3, nf_succ, hf, if_pos rfl]
   ·simp only
    rw [mget_mset']
    by_cases hst : s = t
    ·subst hst
     rw [if_pos rfl, h3, ix_fst hf]
    ·have hne : ¬ markL (σ t) = markL (σ s) := fun q => hno t (by omega) ((hinj t s (by omega) hs).1 q)
     rw [if_neg hne]; exact h4 t (by omega)
   ·simp only
    rw [mget_mset']
    have hne : ¬ markL (σ t) = markL (σ s) := fun q => hu s (by omega) ((hinj t s ht hs).1 q).symm
    rw [if_neg hne]
    exact h5 t ht fun u hu' => hu u (by omega)
   ·simp only [hnone, Option.isSome_none, Bool.not_false, cond_true, g2, gd, g0, g1, Int.toNat_natCast, hw]
  | false =>
   have hex : ∃ u, u < s ∧ σ u = σ s := by
    have : ¬ ∀ u, u < s → σ u ≠ σ s := fun q => by rw [fstO_iff.2 q] at hf; cases hf
    obtain ⟨u, hu⟩ := Classical.not_forall.1 this
    obtain ⟨q1, q2⟩ := Classical.not_imp.1 hu
    exact ⟨u, q1, Classical.not_not.1 q2⟩
   obtain ⟨u, hu, hus⟩ := hex
   have hsome : mget mp (markL (σ s)) = some ((ix σ s : Nat) : Int) := by
    rw [← hus, h4 u hu, ix_iff.2 hus]
   refine ⟨(l'.set s ((ix σ s : Nat) : Int), mp), ⟨by simp only; rw [List.length_set]; exact h1, fun t ht => ?_, ?_, fun t ht => ?_, fun t ht hu' => ?_⟩, ?_⟩
   ·simp only [hset]
    by_cases hst : s = t
    ·subst hst
     rw [if_pos ⟨rfl, by omega⟩]
    ·rw [if_neg (fun q => hst q.1)]; exact h2 t (by omega)
   ·simp only
    rw [h3, nf_succ, hf]; simp
   ·by_cases hst : s = t
    ·subst hst; exact hsome
    ·exact h4 t (by omega)
   ·exact h5 t ht fun u hu'' => hu' u (by omega)
   ·simp only [hsome, Option.isSome_some, Bool.not_true, cond_false, g0, g1, gd, cond_true, Int.toNat_natCast, hw, Option.getD_some]
def p0 (E : List Bool) (s : Nat) : Nat := if en E s = en E 0 then 0 else 1
theorem nf_p0 (E : List Bool) : ∀ c, nf (p0 E) c = if c = 0 then 0 else 1 + if ((List.range c).any fun u => decide (p0 E u = 1)) = true then 1 else 0
 | 0 => rfl
 | c + 1 => by
  rw [nf_succ, nf_p0 E c, if_neg (by omega : ¬ c + 1 = 0), List.range_succ, List.any_append]
  simp only [List.any_cons, List.any_nil, Bool.or_false]
  have h00 : p0 E 0 = 0 := by unfold p0; simp
  by_cases hc : c = 0
  ·subst hc
   simp [h00, fstO]
  ·rw [if_neg hc]
   have hv : p0 E c = 0 ∨ p0 E c = 1 := by unfold p0; split <;> simp
   rcases hv with h0 | h1
   ·have hf : fstO (p0 E) c = false := by
     cases hq : fstO (p0 E) c with
     | false => rfl
     | true => exact absurd (by rw [h00, h0]) (fstO_iff.1 hq 0 (by omega))
    rw [hf, h0]; simp
   ·cases ha : (List.range c).any fun u => decide (p0 E u = 1) with
    | true =>
     have hf : fstO (p0 E) c = false := by
      cases hq : fstO (p0 E) c with
      | false => rfl
      | true =>
       rw [List.any_eq_true] at ha
       obtain ⟨u, hu, he⟩ := ha
       exact absurd (by rw [of_decide_eq_true he, h1]) (fstO_iff.1 hq u (List.mem_range.1 hu))
     rw [hf]; simp
    | false =>
     have hf : fstO (p0 E) c = true := by
      rw [fstO_iff]
      intro u hu he
      have : ((List.range c).any fun u => decide (p0 E u = 1)) = true := by
       rw [List.any_eq_true]
       exact ⟨u, List.mem_range.2 hu, decide_eq_true (by rw [he, h1])⟩
      rw [ha] at this; cases this
     rw [hf, h1]; simp
structure Rnd (C : List Int) (N : List (List Int)) (E : List Bool) (k : Nat) (p : Nat → Nat) : Prop where
 fine : gapless C → ∀ s t, s < k → t < k → eqs C N E s t → p s = p t
 ends : ∀ s t, s < k → t < k → p s = p t → en E s = en E t
 lt : ∀ s, s < k → p s < 65536
theorem Rnd.round (h : Mch C N E k m) {p : Nat → Nat} (hp : Rnd C N E k p) : Rnd C N E k (ix (sig N m p)) := by
 refine ⟨fun hg s t hs ht he => ?_, fun s t hs ht he => ?_, fun s hs => ?_⟩
 ·rw [ix_iff, sig_iff]
  refine ⟨hp.fine hg s t hs ht he, fun a ha => ?_⟩
  obtain ⟨b, hb, hba⟩ := h.inh hg a ha
  have e1 : ∀ x, rowN N x a = dl C N x b := fun x => by unfold rowN dl; rw [hba]; rfl
  rw [e1, e1]
  exact hp.fine hg _ _ (h.dl_lt hs hb) (h.dl_lt ht hb) (eqs_step he hb)
 ·rw [ix_iff, sig_iff] at he
  exact hp.ends s t hs ht he.1
 ·have := ix_lt (σ := sig N m p) hs
  have := nf_le (sig N m p) k
  have := h.k2
  omega
theorem parts_ok (h : Mch C N E k m) (kf : Nat) (hkf : 20000 ≤ kf) (K : List Int → Option R) (T : Option R)
  (hT : ∀ (p : Nat → Nat) (l : List Int), PL k p l → Prt C N E k p → K l = T) : yy16 kf C N E K = T := by
 unfold yy16 yy16_b
 have hN := h.nl; have hE := h.el; have hk1 := h.k1; have hk2 := h.k2
 have hsm : ∀ x : Nat, x ≤ 2000 → (x : Int) < (SMALL : Int) := fun x hx => by rw [small_eq]; omega
 rw [gdd (by omega), gdd (by omega), gdd (hsm _ (by omega)), Int.toNat_natCast, hN]
 refine loop_all (fun kk s (acc : Int × List Int) => yy16_l4 kf kk E (E.length : Int) C N E (fun (v12 : Int) (v13 : List Int) (v14 : List (List Int)) (v15 : List Bool) (v16 : List Int) => yy16_l9 kf kf (fun (v42 : List Int) => K v42) v12 v13 v14 v15 v16) acc.1 (s : Int) acc.2) T k 0
  (fun s acc => acc.1 = 1 + (if ((List.range s).any fun u => decide (p0 E u = 1)) = true then 1 else 0) ∧ acc.2.length = k ∧ ∀ t, t < k → acc.2.getD t 0 = if t < s then ((p0 E t : Nat) : Int) else 0) ?_ ?_ k kf 0 (1, List.replicate k (0 : Int)) (by omega) (by omega)
  ⟨rfl, List.length_replicate, fun t ht => by rw [getD_rep]; simp⟩
 ·rintro kk ⟨c, l⟩ ⟨h1, h2, h3⟩
  simp only at h1 h2 h3
  rw [yy16_l4]
  unfold yy16_l4_b
  rw [decide_eq_false (show ¬ ((k : Int) < (E.length : Int)) by omega), cond_false]
  dsimp only
  have hc : c = ((nf (p0 E) k : Nat) : Int) := by
   have hk0 : ¬ k = 0 := by omega
   rw [h1, nf_p0 E k, if_neg hk0]
   cases (List.range k).any fun u => decide (p0 E u = 1) <;> rfl
  have hR0 : Rnd C N E k (p0 E) := by
   refine ⟨fun _ s t hs ht he => ?_, fun s t hs ht he => ?_, fun s hs => ?_⟩
   ·have : en E s = en E t := he [] fun b hb => (nomatch hb)
    unfold p0; rw [this]
   ·unfold p0 at he
    split at he <;> split at he
    ·rename_i a b; rw [a, b]
    ·cases he
    ·cases he
    ·rename_i a b
     revert a b
     cases en E s <;> cases en E t <;> cases en E 0 <;> simp
   ·unfold p0; split <;> omega
  refine loop_meas (fun kk (acc : (Nat → Nat) × Int × List Int) => yy16_l9 kf kk (fun (v42 : List Int) => K v42) acc.2.1 C N E acc.2.2) T (fun acc => k + 1 - nf acc.1 k) 3000
   (fun acc => Rnd C N E k acc.1 ∧ PL k acc.1 acc.2.2 ∧ acc.2.1 = ((nf acc.1 k : Nat) : Int)) ?_ kf (p0 E, c, l) (by simp only; omega) ⟨hR0, ⟨h2, fun s hs => by rw [h3 s hs, if_pos hs]⟩, hc⟩
  rintro kk ⟨p, c, l⟩ hB ⟨q1, q2, q3⟩ hrest
  simp only at q1 q2 q3 hrest
  have hq2 : l.length = k := q2.1
  rw [yy16_l9]
  unfold yy16_l9_b
  dsimp only
  rw [gdd (by omega), gdd (by omega), gdd (hsm _ (by omega)), Int.toNat_natCast, hq2]
  refine l12_ok h kf kk (by omega) (by omega) p q1.lt l q2 _ _ T fun l' mp z1 z2 => ?_
  have hnfk := nf_le (sig N m p) k
  obtain ⟨r1, r2⟩ := nf_refine (σ := p) (τ := sig N m p) (k := k) fun s t _ _ he => (sig_iff.1 he).1
  rw [gdd (by rw [small_eq]; omega)]
  by_cases hcc : (mp.length : Int) = c
  ·rw [decide_eq_true hcc, cond_true]
   have hst := r2 (by omega)
   have hr := q1.round h
   refine hT (ix (sig N m p)) l' z1 ⟨fun s t b hs ht hb he => ?_, hr.ends, hr.fine, fun s hs => ?_, ix_zero _⟩
   ·rw [ix_iff] at he ⊢
    exact hst _ _ (h.dl_lt hs hb) (h.dl_lt ht hb) ((sig_iff.1 he).2 (C.getD b 0).toNat (h.cls_lt b hb).1)
   ·have := ix_lt (σ := sig N m p) hs; omega
  ·rw [decide_eq_false hcc, cond_false, gdd (by rw [small_eq]; omega)]
   have hnn : nf (ix (sig N m p)) k = nf (sig N m p) k := by
    have a1 := (nf_refine (σ := ix (sig N m p)) (τ := sig N m p) (k := k) fun s t _ _ he => ix_iff.2 he).1
    have a2 := (nf_refine (σ := sig N m p) (τ := ix (sig N m p)) (k := k) fun s t _ _ he => ix_iff.1 he).1
    omega
   refine hrest (ix (sig N m p), (mp.length : Int), l') ⟨q1.round h, z1, ?_⟩ ?_
   ·simp only
    rw [hnn, z2]
   ·simp only
    have hle := nf_le p k
    omega
 ·rintro kk s ⟨c, l⟩ hB hs ⟨h1, h2, h3⟩ hrest
  simp only at h1 h2 h3
  have hw := wi_1 s (show s < 4000000000000000000 by omega)
  have hset : ∀ (v : Int) (t : Nat), (l.set s v).getD t 0 = if s = t ∧ t < l.length then v else l.getD t 0 := fun v t => getD_set' l s t v 0
  have hany : ((List.range (s + 1)).any fun u => decide (p0 E u = 1)) = (((List.range s).any fun u => decide (p0 E u = 1)) || decide (p0 E s = 1)) := by
   rw [List.range_succ, List.any_append]; simp
  rw [yy16_l4]
  unfold yy16_l4_b
  rw [decide_eq_true (show (s : Int) < (E.length : Int) by omega), cond_true, gdd (by omega), gd_true rfl, gdd (by omega), Int.toNat_natCast]
  by_cases he : E.getD s false = E.getD 0 false
  ·have hp : p0 E s = 0 := by unfold p0 en; rw [if_pos he]
   rw [decide_eq_true he, Bool.not_true, cond_false, hw]
   refine hrest (c, l) ⟨?_, h2, fun t ht => ?_⟩
   ·simp only
    rw [h1, hany, hp]; simp
   ·simp only
    rw [h3 t ht]
    by_cases hts : t = s
    ·subst hts
     rw [if_neg (by omega), if_pos (by omega), hp]; rfl
    ·by_cases hlt : t < s
     ·rw [if_pos hlt, if_pos (by omega)]
     ·rw [if_neg hlt, if_neg (by omega)]
  ·have hp : p0 E s = 1 := by unfold p0 en; rw [if_neg he]
   have g1 : decide ((s : Int) < (l.length : Int)) = true := decide_eq_true (by omega)
   have g0 : decide (0 ≤ (s : Int)) = true := decide_eq_true (by omega)
   rw [decide_eq_false he, Bool.not_false, cond_true]
   simp only [g0, g1, gd, cond_true, hw]
   refine hrest (2, l.set s 1) ⟨?_, by simp only; rw [List.length_set]; exact h2, fun t ht => ?_⟩
   ·simp only
    rw [hany, hp]; simp
   ·simp only [hset]
    by_cases hts : s = t
    ·subst hts
     rw [if_pos ⟨rfl, by omega⟩, if_pos (by omega), hp]; rfl
    ·rw [if_neg (fun q => hts q.1), h3 t ht]
     by_cases hlt : t < s
     ·rw [if_pos hlt, if_pos (by omega)]
     ·rw [if_neg hlt, if_neg (by omega)]
end
end Go.Ab.T

/- The parts in order, and the least machine: least.order, least.Least. -/
namespace Go.Ab.T
open Go Go.Ab
set_option linter.unusedVariables false
set_option linter.unusedSimpArgs false
def idc (b : Nat) : Int := (b : Int)
theorem idc_rep (f : Nat) : isR idc f := fun b hb h => by unfold idc at h; omega
structure Ord (k : Nat) (p : Nat → Nat) (q : Q) (S : List Nat) (mp : List (Int × Int)) : Prop where
 len : S.length = q.length
 st : ∀ j, j < q.length → S.getD j 0 < k ∧ p (S.getD j 0) = qs q j
 num : ∀ j, j < q.length → mget mp ((qs q j : Nat) : Int) = some (j : Int)
 non : ∀ P : Nat, (∀ x ∈ q, x.1 ≠ P) → mget mp (P : Int) = none
theorem Ord.new {k : Nat} {p : Nat → Nat} {q : Q} {S : List Nat} {mp : List (Int × Int)} (h : Ord k p q S mp) {s : Nat} (hs : s < k) (w : List Nat) (hn : ∀ x ∈ q, x.1 ≠ p s) :
  Ord k p (q ++ [(p s, w)]) (S ++ [s]) (mset mp ((p s : Nat) : Int) (S.length : Int)) := by
 have hlen := h.len
 refine ⟨by simp [hlen], fun j hj => ?_, fun j hj => ?_, fun P hP => ?_⟩
 ·rw [snoc_getD]
  by_cases hjl : j < q.length
  ·rw [if_pos (by omega), qs_old hjl]; exact h.st j hjl
  ·have : j = q.length := by simp at hj; omega
   subst this
   rw [if_neg (by omega), if_pos (by omega), qs_new]; exact ⟨hs, rfl⟩
 ·rw [mget_mset']
  by_cases hjl : j < q.length
  ·rw [qs_old hjl]
   have h1 := hn _ (q_mem hjl)
   simp only at h1
   rw [if_neg (by omega)]; exact h.num j hjl
  ·have : j = q.length := by simp at hj; omega
   subst this
   rw [qs_new, if_pos rfl, hlen]
 ·rw [mget_mset']
  have h1 : p s ≠ P := hP (p s, w) (by simp)
  rw [if_neg (by omega)]
  exact h.non P fun x hx => hP x (List.mem_append_left _ hx)
section
variable {R : Type} {C : List Int} {N : List (List Int)} {E : List Bool} {k m : Nat} {p r : Nat → Nat}
theorem stp_id (h : Mch C N E k m) (hp : Pts C N E k p r) : Stp (dq C N p r) (Gq C N p) idc k :=
 stp_q h hp idc fun P b f _ _ _ hc => by unfold idc at hc; rw [show f = b by omega]
theorem o7_ok (h : Mch C N E k m) (hp : Pts C N E k p r) (kf k0 : Nat) (hk : 300 < k0) (l : List Int) (hl : PL k p l) (i : Nat) (q : Q) (S : List Nat) (mp : List (Int × Int)) (hb : Bg (dq C N p r) (Gq C N p) idc k i 0 q) (ho : Ord k p q S mp) (hi : i < q.length)
  (Ke : (List Int) → Int → (List Int) → (List (List Int)) → (List Bool) → (List Int) → (List (Int × Int)) → Option R) (T : Option R)
  (hT : ∀ (q' : Q) (S' : List Nat) (mp' : List (Int × Int)), Bg (dq C N p r) (Gq C N p) idc k i 256 q' → Ord k p q' S' mp' → i < q'.length → Ke l (i : Int) C N E (castF S') mp' = T) :
  yy15_l7 kf k0 l (i : Int) C N E Ke 0 (castF S) mp = T := by
 have hN := h.nl; have hk2 := h.k2
 refine loop_all (fun kk b (acc : Q × List Nat × List (Int × Int)) => yy15_l7 kf kk l (i : Int) C N E Ke (b : Int) (castF acc.2.1) acc.2.2) T 256 0
  (fun b acc => Bg (dq C N p r) (Gq C N p) idc k i b acc.1 ∧ Ord k p acc.1 acc.2.1 acc.2.2 ∧ i < acc.1.length) ?_ ?_ 256 k0 0 (q, S, mp) (by omega) (by omega) ⟨hb, ho, hi⟩
 ·rintro kk ⟨q', S', mp'⟩ ⟨h1, h2, h3⟩
  rw [yy15_l7]
  unfold yy15_l7_b
  rw [decide_eq_false (show ¬ (((256 : Nat) : Int) < 256) by omega), cond_false]
  exact hT q' S' mp' h1 h2 h3
 ·rintro kk b ⟨q', S', mp'⟩ _ hb ⟨h1, h2, h3⟩ hrest
  simp only at h1 h2 h3
  have hsz := h1.size
  obtain ⟨s1, s2⟩ := h2.st i h3
  have hlen := h2.len
  generalize hs : S'.getD i 0 = s at s1 s2
  obtain ⟨c1, c2⟩ := h.cls_lt b hb
  have hdl : dl C N s b = ((N.getD s []).getD (C.getD b 0).toNat 0).toNat := rfl
  obtain ⟨t1, t2⟩ := h.row_lt s1 c1
  rw [← hdl] at t1 t2
  have hrow := h.row s s1
  have hdq : dq C N p r (qs q' i) b = p (dl C N s b) := by rw [← s2]; exact dq_p h hp s1 hb
  generalize hcc : (C.getD b 0).toNat = cc at c1 c2 t2
  generalize htt : dl C N s b = t at t1 t2 hdq
  have hw := wi_1 b (show b < 4000000000000000000 by omega)
  rw [yy15_l7]
  unfold yy15_l7_b
  dsimp only
  have g1 : decide ((i : Int) < ((castF S').length : Int)) = true := decide_eq_true (by rw [castF_len]; omega)
  rw [decide_eq_true (show (b : Int) < 256 by omega), cond_true, gdd (by omega), g1, gd_true rfl, Int.toNat_natCast, castF_getD, hs, gdd (by omega), gdd (by omega), gdd (by omega), gd_true rfl, Int.toNat_natCast, Int.toNat_natCast, c2, gdd (by omega), gdd (by omega), Int.toNat_natCast, t2, gdd (by omega), gdd (by have := hl.1; omega), Int.toNat_natCast, hl.2 t t1]
  by_cases hm : ∃ x ∈ q', x.1 = p t
  ·obtain ⟨x, hx, he⟩ := hm
   obtain ⟨j, hj, rfl⟩ := q_of_mem hx
   simp only at he
   have hsome : mget mp' ((p t : Nat) : Int) = some (j : Int) := by rw [← he]; exact h2.num j hj
   rw [hsome, Option.isSome_some, Bool.not_true, cond_false, hw]
   exact hrest (q', S', mp') ⟨h1.old (stp_id h hp) h3 hb (idc_rep b) ⟨_, hx, by simp only; rw [hdq]; exact he⟩, h2, h3⟩
  ·have hm' : ∀ x ∈ q', x.1 ≠ p t := fun x hx he => hm ⟨x, hx, he⟩
   rw [h2.non _ hm', Option.isSome_none, Bool.not_false, cond_true, gdd (by omega), gdd (by have := hl.1; omega), gdd (by rw [small_eq, castF_len]; simp; omega), hw, castF_len]
   have hcs : castF S' ++ [(t : Int)] = castF (S' ++ [t]) := by unfold castF; simp
   rw [hcs]
   have hnew := h1.new (stp_id h hp) h3 hb (idc_rep b) (by rw [hdq]; exact hm')
   rw [hdq] at hnew
   exact hrest (_, S' ++ [t], _) ⟨hnew, h2.new t1 _ hm', by simp only; rw [List.length_append]; omega⟩
theorem order_ok (h : Mch C N E k m) (hp : Pts C N E k p r) (kf : Nat) (hkf : 10000 ≤ kf) (l : List Int) (hl : PL k p l) (K : List Int → List (Int × Int) → Option R) (T : Option R)
  (hT : ∀ (q : Q) (S : List Nat) (mp : List (Int × Int)), Bg (dq C N p r) (Gq C N p) idc k q.length 0 q → Ord k p q S mp → K (castF S) mp = T) : yy15 kf C N E l K = T := by
 unfold yy15 yy15_b
 have hk1 := h.k1; have hk2 := h.k2
 have hl0 := hl.1
 rw [gdd (by omega), hl.2 0 (by omega), hp.zero]
 refine loop_meas (fun kk (acc : Nat × Q × List Nat × List (Int × Int)) => yy15_l4 kf kk (fun (v28 : List Int) (v29 : List (Int × Int)) => K v28 v29) l (acc.1 : Int) C N E (castF acc.2.2.1) acc.2.2.2) T (fun acc => k + 1 - acc.1) 1000
  (fun acc => Bg (dq C N p r) (Gq C N p) idc k acc.1 0 acc.2.1 ∧ Ord k p acc.2.1 acc.2.2.1 acc.2.2.2) ?_ kf (0, [(0, [])], [0], mset ([] : List (Int × Int)) 0 0) (by simp only; omega)
  ⟨Bg.start (stp_id h hp), ⟨rfl, fun j hj => ?_, fun j hj => ?_, fun P hP => ?_⟩⟩
 ·rintro kk ⟨i, q, S, mp⟩ hB ⟨h1, h2⟩ hrest
  simp only at h1 h2 hrest
  have hsz := h1.size
  have hlen := h2.len
  have hple := h1.ple
  rw [yy15_l4]
  unfold yy15_l4_b
  dsimp only
  by_cases hi : i < q.length
  ·rw [castF_len, decide_eq_true (show (i : Int) < (S.length : Int) by omega), cond_true]
   refine o7_ok h hp kf kk (by omega) l hl i q S mp h1 h2 hi _ T fun q' S' mp' z1 z2 z3 => ?_
   rw [wi_1 i (by omega)]
   exact hrest (i + 1, q', S', mp') ⟨z1.next z3, z2⟩ (by simp only; omega)
  ·rw [castF_len, decide_eq_false (show ¬ ((i : Int) < (S.length : Int)) by omega), cond_false]
   have : i = q.length := by omega
   subst this
   exact hT q S mp h1 h2
 ·have : j = 0 := by simp at hj; exact hj
  subst this
  exact ⟨by show 0 < k; omega, hp.zero⟩
 ·have : j = 0 := by simp at hj; exact hj
  subst this
  rfl
 ·have h0 : (0 : Nat) ≠ P := hP (0, []) (by simp)
  show mget (mset ([] : List (Int × Int)) 0 0) (P : Int) = none
  rw [mget_mset', if_neg (by omega)]; rfl
end
def FL {α : Type} [DecidableEq α] (σ : Nat → α) (c : Nat) : List Nat := (List.range c).filter (fstO σ)
section
variable {α : Type} [DecidableEq α]
theorem FL_succ (σ : Nat → α) (c : Nat) : FL σ (c + 1) = FL σ c ++ (if fstO σ c = true then [c] else []) := by
 unfold FL
 rw [List.range_succ, List.filter_append]
 congr 1
 simp only [List.filter_cons, List.filter_nil]
theorem FL_len (σ : Nat → α) (c : Nat) : (FL σ c).length = nf σ c := by unfold FL nf; rw [List.countP_eq_length_filter]
theorem FL_getD (σ : Nat → α) : ∀ c f, f < c → fstO σ f = true → (FL σ c).getD (nf σ f) 0 = f
 | 0, f, hf, _ => by omega
 | c + 1, f, hf, hfs => by
  rw [FL_succ]
  by_cases hfc : f = c
  ·subst hfc
   rw [if_pos hfs, snoc_getD, FL_len, if_neg (by omega), if_pos rfl]
  ·have h1 := FL_getD σ c f (by omega) hfs
   have h2 := nf_lt (c := c) hfs (by omega)
   cases fstO σ c with
   | true => rw [if_pos rfl, snoc_getD, FL_len, if_pos h2, h1]
   | false => rw [if_neg (by simp), List.append_nil, h1]
theorem FL_mem {σ : Nat → α} {c i : Nat} (h : i < (FL σ c).length) : (FL σ c).getD i 0 < c ∧ fstO σ ((FL σ c).getD i 0) = true := by
 have := getD_mem (FL σ c) i h 0
 unfold FL at this
 rw [List.mem_filter, List.mem_range] at this
 exact this
end
section
variable {R : Type}
theorem equal_ok (kf : Nat) (a b : List Nat) (hl : a.length = b.length) (hs : a.length + 10 < kf) (hb : a.length ≤ 100000) (K : Bool → Option R) : yy37 kf (castF a) (castF b) K = K (decide (a = b)) := by
 unfold yy37 yy37_b
 rw [castF_len, castF_len, hl, decide_eq_true rfl, Bool.not_true, cond_false]
 refine loop_inv (fun kk i (_ : Unit) => yy37_l4 kf kk (castF a) (castF b) (b.length : Int) (fun (v7 : Bool) => K v7) (K true) (i : Int)) _ b.length 0 (fun i _ => ∀ j, j < i → a.getD j 0 = b.getD j 0) ?_ ?_ b.length kf 0 () (by omega) (by omega) (by intro j hj; omega)
 ·intro kk _ hall
  rw [yy37_l4]
  unfold yy37_l4_b
  rw [decide_eq_false (show ¬ ((b.length : Int) < (b.length : Int)) by omega), cond_false]
  have : a = b := by
   apply List.ext_getElem hl
   intro i h1 h2
   have := hall i h2
   rwa [List.getD_eq_getElem?_getD, List.getD_eq_getElem?_getD, List.getElem?_eq_getElem h1, List.getElem?_eq_getElem h2] at this
  rw [decide_eq_true this]
 ·intro kk i _ _ hi hall
  have g0 : decide (0 ≤ (i : Int)) = true := decide_eq_true (by omega)
  have g1 : decide ((i : Int) < ((castF a).length : Int)) = true := decide_eq_true (by rw [castF_len]; omega)
  have g2 : decide ((i : Int) < ((castF b).length : Int)) = true := decide_eq_true (by rw [castF_len]; omega)
  by_cases he : a.getD i 0 = b.getD i 0
  ·left
   refine ⟨(), fun j hj => ?_, ?_⟩
   ·by_cases hji : j = i
    ·subst hji; exact he
    ·exact hall j (by omega)
   ·rw [yy37_l4]
    unfold yy37_l4_b
    rw [decide_eq_true (show (i : Int) < (b.length : Int) by omega), cond_true, g0, gd_true rfl, g1, gd_true rfl, gd_true rfl, g2, gd_true rfl, Int.toNat_natCast, castF_getD, castF_getD, he, decide_eq_true rfl, Bool.not_true, cond_false, wi_1 i (by omega)]
  ·right
   have hne : a ≠ b := fun h => he (by rw [h])
   rw [yy37_l4]
   unfold yy37_l4_b
   rw [decide_eq_true (show (i : Int) < (b.length : Int) by omega), cond_true, g0, gd_true rfl, g1, gd_true rfl, gd_true rfl, g2, gd_true rfl, Int.toNat_natCast, castF_getD, castF_getD, decide_eq_false (show ¬ (((a.getD i 0 : Nat) : Int) = ((b.getD i 0 : Nat) : Int)) by omega), Bool.not_false, cond_true, decide_eq_false hne]
def waysL (σ : Nat → List Nat) (c : Nat) : List (List Int) := (FL σ c).map fun f => castF (σ f)
theorem waysL_len (σ : Nat → List Nat) (c : Nat) : (waysL σ c).length = nf σ c := by unfold waysL; rw [List.length_map, FL_len]
theorem waysL_getD (σ : Nat → List Nat) (c i : Nat) (h : i < nf σ c) : (waysL σ c).getD i [] = castF (σ ((FL σ c).getD i 0)) := by
 unfold waysL
 rw [← FL_len] at h
 rw [List.getD_eq_getElem?_getD, List.getD_eq_getElem?_getD, List.getElem?_map, List.getElem?_eq_getElem h]
 rfl
theorem indexf_ok (kf : Nat) (hkf : 3000 ≤ kf) (σ : Nat → List Nat) (n c : Nat) (hc : c < 256) (hn : n ≤ 2000) (hσ : ∀ b, b < 256 → (σ b).length = n) (K : Int → List Int → Option R) :
  yy38 kf (waysL σ c) (castF (σ c)) K = K (if fstO σ c = true then -1 else ((ix σ c : Nat) : Int)) (castF (σ c)) := by
 unfold yy38 yy38_b
 have hnf := nf_le σ c
 rw [waysL_len]
 refine loop_inv (fun kk i (_ : Unit) => yy38_l2 kf kk (waysL σ c) ((nf σ c : Nat) : Int) (fun (v9 : Int) (v10 : List Int) => K v9 v10) (fun (v11 : List Int) => K (-1) v11) (i : Int) (castF (σ c))) _ (nf σ c) 0
  (fun i _ => ∀ j, j < i → σ ((FL σ c).getD j 0) ≠ σ c) ?_ ?_ (nf σ c) kf 0 () (by omega) (by omega) (by intro j hj; omega)
 ·intro kk _ hno
  have hf : fstO σ c = true := by
   rw [fstO_iff]
   intro u hu he
   obtain ⟨a1, a2, a3⟩ := fo_spec σ u
   have h1 := nf_lt (c := c) a2 (by omega)
   have h2 := FL_getD σ c (fo σ u) (by omega) a2
   exact hno _ h1 (by rw [h2, a3, he])
  rw [yy38_l2]
  unfold yy38_l2_b
  rw [decide_eq_false (show ¬ (((nf σ c : Nat) : Int) < ((nf σ c : Nat) : Int)) by omega), cond_false, if_pos hf]
 ·intro kk i _ _ hi hno
  obtain ⟨f1, f2⟩ := FL_mem (σ := σ) (c := c) (i := i) (by rw [FL_len]; exact hi)
  have g0 : decide (0 ≤ (i : Int)) = true := decide_eq_true (by omega)
  have g1 : decide ((i : Int) < ((waysL σ c).length : Int)) = true := decide_eq_true (by rw [waysL_len]; omega)
  have hidx : ix σ ((FL σ c).getD i 0) = i := by
   rw [ix_fst f2]
   have key : ∀ c i, i < (FL σ c).length → nf σ ((FL σ c).getD i 0) = i := by
    intro c
    induction c with
    | zero => intro i hi; simp [FL] at hi
    | succ c ih =>
     intro i hi
     rw [FL_succ] at hi ⊢
     cases hfc : fstO σ c with
     | true =>
      rw [hfc, if_pos rfl] at hi
      rw [if_pos rfl, snoc_getD]
      by_cases hil : i < (FL σ c).length
      ·rw [if_pos hil]; exact ih i hil
      ·have : i = (FL σ c).length := by simp at hi; omega
       rw [if_neg hil, if_pos this, this, FL_len]
     | false =>
      rw [hfc] at hi
      rw [if_neg (by simp), List.append_nil] at hi ⊢
      exact ih i hi
   exact key c i (by rw [FL_len]; exact hi)
  by_cases he : σ ((FL σ c).getD i 0) = σ c
  ·right
   have hnf : ¬ fstO σ c = true := fun q => fstO_iff.1 q _ f1 he
   have hix : ix σ c = i := by rw [← hidx, ix_iff]; exact he.symm
   rw [yy38_l2]
   unfold yy38_l2_b yy13 yy13_b
   rw [decide_eq_true (show (i : Int) < ((nf σ c : Nat) : Int) by omega), cond_true, g0, gd_true rfl, g1, gd_true rfl, Int.toNat_natCast, waysL_getD σ c i hi, equal_ok kf _ _ (by rw [hσ _ (by omega), hσ _ (by omega)]) (by rw [hσ _ (by omega)]; omega) (by rw [hσ _ (by omega)]; omega), decide_eq_true he]
   dsimp only
   rw [cond_true, if_neg hnf, hix]
  ·left
   refine ⟨(), fun j hj => ?_, ?_⟩
   ·by_cases hji : j = i
    ·subst hji; exact he
    ·exact hno j (by omega)
   ·rw [yy38_l2]
    unfold yy38_l2_b yy13 yy13_b
    rw [decide_eq_true (show (i : Int) < ((nf σ c : Nat) : Int) by omega), cond_true, g0, gd_true rfl, g1, gd_true rfl, Int.toNat_natCast, waysL_getD σ c i hi, equal_ok kf _ _ (by rw [hσ _ (by omega), hσ _ (by omega)]) (by rw [hσ _ (by omega)]; omega) (by rw [hσ _ (by omega)]; omega), decide_eq_false he]
    dsimp only
    rw [cond_false, wi_1 i (by omega)]
end
end Go.Ab.T

/- The least machine: least.Least comes to the language's own form. -/
namespace Go.Ab.T
open Go Go.Ab
set_option linter.unusedVariables false
set_option linter.unusedSimpArgs false
def JOk (C : List Int) (N : List (List Int)) (p r : Nat → Nat) (q : Q) (J : Nat → Nat → Nat) : Prop := ∀ i b, i < q.length → b < 256 → J i b < q.length ∧ qs q (J i b) = dq C N p r (qs q i) b
def wayN (q : Q) (J : Nat → Nat → Nat) (b : Nat) : List Nat := (List.range q.length).map fun i => J i b
theorem wayN_len (q : Q) (J : Nat → Nat → Nat) (b : Nat) : (wayN q J b).length = q.length := by unfold wayN; simp
theorem wayN_getD (q : Q) (J : Nat → Nat → Nat) (b i : Nat) (h : i < q.length) : (wayN q J b).getD i 0 = J i b := by
 unfold wayN
 rw [List.getD_eq_getElem?_getD, List.getElem?_map, List.getElem?_range h]; rfl
theorem wayN_eq {q : Q} {J : Nat → Nat → Nat} {b b' : Nat} : wayN q J b = wayN q J b' ↔ ∀ i, i < q.length → J i b = J i b' := by
 constructor
 ·intro h i hi
  have : (wayN q J b).getD i 0 = (wayN q J b').getD i 0 := by rw [h]
  rwa [wayN_getD q J b i hi, wayN_getD q J b' i hi] at this
 ·intro h
  unfold wayN
  exact List.map_congr_left fun i hi => h i (List.mem_range.1 hi)
section
variable {R : Type} {C : List Int} {N : List (List Int)} {E : List Bool} {k m : Nat} {p r : Nat → Nat}
theorem J_ex {q : Q} (hq : Bg (dq C N p r) (Gq C N p) idc k q.length 0 q) : ∃ J, JOk C N p r q J := by
 have : ∀ x : Nat × Nat, ∃ j, x.1 < q.length → x.2 < 256 → j < q.length ∧ qs q j = dq C N p r (qs q x.1) x.2 := by
  rintro ⟨i, b⟩
  by_cases hi : i < q.length
  ·by_cases hb : b < 256
   ·obtain ⟨x, hx, h1, _⟩ := hq.done i hi b hb
    obtain ⟨j, hj, rfl⟩ := q_of_mem hx
    exact ⟨j, fun _ _ => ⟨hj, h1⟩⟩
   ·exact ⟨0, fun _ h => absurd h hb⟩
  ·exact ⟨0, fun h => absurd h hi⟩
 obtain ⟨f, hf⟩ := Classical.axiomOfChoice this
 exact ⟨fun i b => f (i, b), fun i b hi hb => hf (i, b) hi hb⟩
theorem laid_of (h : Mch C N E k m) (hp : Pts C N E k p r) {cl : Nat → Int} {q : Q} (hq : Bg (dq C N p r) (Gq C N p) cl k q.length 0 q) {J : Nat → Nat → Nat} (hJ : JOk C N p r q J) {C' : List Int} {N' : List (List Int)} {E' : List Bool}
  (hC : C'.length = 256 ∧ ∀ b, b < 256 → C'.getD b 0 = ((ix (wayN q J) b : Nat) : Int)) (hN : N'.length = q.length)
  (hrow : ∀ i, i < q.length → (N'.getD i []).length = nf (wayN q J) 256 ∧ ∀ f, f < 256 → fstO (wayN q J) f = true → (N'.getD i []).getD (nf (wayN q J) f) 0 = ((J i f : Nat) : Int))
  (hE : E'.length = q.length) (hends : ∀ i, i < q.length → en E' i = en E (r (qs q i))) : Laid C N E p r q C' N' E' (nf (wayN q J) 256) := by
 obtain ⟨c1, c2⟩ := hC
 generalize hσ : wayN q J = σ at *
 have hce : ∀ b b', b < 256 → b' < 256 → (C'.getD b 0 = C'.getD b' 0 ↔ σ b = σ b') := by
  intro b b' hb hb'
  rw [c2 b hb, c2 b' hb', ← ix_iff (σ := σ)]
  constructor
  ·intro h; omega
  ·intro h; rw [h]
 have hrep : ∀ b, b < 256 → repB C' b = fstO σ b := by
  intro b hb
  rw [Bool.eq_iff_iff, repB_iff, fstO_iff]
  constructor
  ·intro hr u hu he; exact hr u hu ((hce u b (by omega) hb).2 he)
  ·intro hr u hu he; exact hr u hu ((hce u b (by omega) hb).1 he)
 refine ⟨c1, fun b hb => ⟨_, ix_lt hb, c2 b hb⟩, fun a ha => ?_, nf_le _ _, fun b b' hb hb' => ?_, fun b hb hr => ?_, hN, fun i hi => ?_, hE, hends⟩
 ·rw [← FL_len] at ha
  obtain ⟨f1, f2⟩ := FL_mem ha
  refine ⟨_, f1, ?_⟩
  rw [c2 _ f1, ix_fst f2]
  congr 1
  have key : ∀ c i, i < (FL σ c).length → nf σ ((FL σ c).getD i 0) = i := by
   intro c
   induction c with
   | zero => intro i hi; simp [FL] at hi
   | succ c ih =>
    intro i hi
    rw [FL_succ] at hi ⊢
    cases hfc : fstO σ c with
    | true =>
     rw [hfc, if_pos rfl] at hi
     rw [if_pos rfl, snoc_getD]
     by_cases hil : i < (FL σ c).length
     ·rw [if_pos hil]; exact ih i hil
     ·have : i = (FL σ c).length := by simp at hi; omega
      rw [if_neg hil, if_pos this, this, FL_len]
    | false =>
     rw [hfc] at hi
     rw [if_neg (by simp), List.append_nil] at hi ⊢
     exact ih i hi
  exact key 256 a ha
 ·rw [hce b b' hb hb', ← hσ, wayN_eq]
  constructor
  ·intro he i hi
   rw [← (hJ i b hi hb).2, ← (hJ i b' hi hb').2, he i hi]
  ·intro he i hi
   exact hq.inj_iff (hJ i b hi hb).1 (hJ i b' hi hb').1 (by rw [(hJ i b hi hb).2, (hJ i b' hi hb').2, he i hi])
 ·have hf : fstO σ b = true := by rw [← hrep b hb]; exact repB_iff.2 hr
  rw [c2 b hb, ix_fst hf]
  unfold nf
  congr 1
  apply List.countP_congr
  intro x hx
  rw [hrep x (by have := List.mem_range.1 hx; omega)]
 ·obtain ⟨r1, r2⟩ := hrow i hi
  refine ⟨r1, fun b hb => ?_⟩
  obtain ⟨f1, f2, f3⟩ := fo_spec σ b
  have h1 := r2 (fo σ b) (by omega) f2
  have h2 : J i (fo σ b) = J i b := by
   rw [← hσ] at f3
   have := wayN_eq.1 f3 i hi
   rw [hσ] at this
   exact this
  refine ⟨J i b, (hJ i b hi hb).1, ?_, (hJ i b hi hb).2⟩
  rw [c2 b hb, Int.toNat_natCast, ← h2]
  exact h1
theorem nf_cls (h : Mch C N E k m) : nf (fun b => C.getD b 0) 256 ≤ m := by
 rw [← FL_len]
 have hn : ((FL (fun b => C.getD b 0) 256).map fun b => (C.getD b 0).toNat).Nodup := by
  unfold List.Nodup
  rw [List.pairwise_map]
  have hlt : (FL (fun b => C.getD b 0) 256).Pairwise (· < ·) := List.Pairwise.filter _ List.pairwise_lt_range
  refine List.Pairwise.imp_of_mem ?_ hlt
  intro a b ha hb hab he
  unfold FL at ha hb
  rw [List.mem_filter, List.mem_range] at ha hb
  have h1 := (h.cls_lt a ha.1).2
  have h2 := (h.cls_lt b hb.1).2
  exact fstO_iff.1 hb.2 a hab (by rw [h1, h2, he])
 have := nodup_len _ (List.range m) hn (fun x hx => by
  rw [List.mem_map] at hx
  obtain ⟨b, hb, rfl⟩ := hx
  unfold FL at hb
  rw [List.mem_filter, List.mem_range] at hb
  exact List.mem_range.2 (h.cls_lt b hb.1).1)
 rwa [List.length_map, List.length_range] at this
theorem nf_way (h : Mch C N E k m) (hp : Pts C N E k p r) {cl : Nat → Int} {q : Q} (hq : Bg (dq C N p r) (Gq C N p) cl k q.length 0 q) {J : Nat → Nat → Nat} (hJ : JOk C N p r q J) : nf (wayN q J) 256 ≤ m := by
 refine Nat.le_trans ?_ (nf_cls h)
 refine (nf_refine (σ := wayN q J) (τ := fun b => C.getD b 0) fun b b' hb hb' he => ?_).1
 rw [wayN_eq]
 intro i hi
 refine hq.inj_iff (hJ i b hi hb).1 (hJ i b' hi hb').1 ?_
 rw [(hJ i b hi hb).2, (hJ i b' hi hb').2]
 unfold dq dl
 rw [he]
theorem L12_ok (h : Mch C N E k m) (hp : Pts C N E k p r) (kf k0 : Nat) (l : List Int) (hl : PL k p l) (q : Q) (S : List Nat) (mp : List (Int × Int)) (hq : Bg (dq C N p r) (Gq C N p) idc k q.length 0 q) (ho : Ord k p q S mp) (hk : k + 2 < k0) {J : Nat → Nat → Nat} (hJ : JOk C N p r q J) (b : Nat) (hb : b < 256) (v29 v33 : List Int) (v34 v35 : List (List Int)) (v36 : List Bool) (v37 : List (List Int)) (v38 : List Bool)
  (Ke : Int → Int → (List Int) → (List (List Int)) → (List Bool) → (List Int) → (List Int) → (List Int) → (List (Int × Int)) → (List Int) → (List (List Int)) → (List (List Int)) → (List Bool) → (List (List Int)) → (List Bool) → (List Int) → Option R) :
  yy12_l12 kf k0 (b : Int) (b : Int) ((castF S).length : Int) C N E v29 l (castF S) mp v33 v34 v35 v36 v37 v38 Ke 0 ([] : List Int) = Ke (b : Int) (b : Int) C N E v29 l (castF S) mp v33 v34 v35 v36 v37 v38 (castF (wayN q J b)) := by
 have hN := h.nl; have hk2 := h.k2; have hsz := hq.size; have hlen := ho.len
 refine loop_inv (fun kk i (acc : List Int) => yy12_l12 kf kk (b : Int) (b : Int) ((castF S).length : Int) C N E v29 l (castF S) mp v33 v34 v35 v36 v37 v38 Ke (i : Int) acc) _ q.length 0
  (fun i acc => acc = castF ((List.range i).map fun i => J i b)) ?_ ?_ q.length k0 0 [] (by omega) (by omega) rfl
 ·rintro kk acc rfl
  rw [yy12_l12]
  unfold yy12_l12_b
  rw [castF_len, decide_eq_false (show ¬ ((q.length : Int) < (S.length : Int)) by omega), cond_false]
  rfl
 ·rintro kk i acc _ hi rfl
  left
  obtain ⟨s1, s2⟩ := ho.st i hi
  generalize hs : S.getD i 0 = s at s1 s2
  obtain ⟨c1, c2⟩ := h.cls_lt b hb
  have hdl : dl C N s b = ((N.getD s []).getD (C.getD b 0).toNat 0).toNat := rfl
  obtain ⟨t1, t2⟩ := h.row_lt s1 c1
  rw [← hdl] at t1 t2
  have hrow := h.row s s1
  have hdq : dq C N p r (qs q i) b = p (dl C N s b) := by rw [← s2]; exact dq_p h hp s1 hb
  obtain ⟨j1, j2⟩ := hJ i b hi hb
  generalize hcc : (C.getD b 0).toNat = cc at c1 c2 t2
  generalize htt : dl C N s b = t at t1 t2 hdq
  have hnum : mget mp ((p t : Nat) : Int) = some ((J i b : Nat) : Int) := by
   rw [← hdq, ← j2]; exact ho.num _ j1
  have hcs : castF ((List.range i).map fun i => J i b) ++ [((J i b : Nat) : Int)] = castF ((List.range (i + 1)).map fun i => J i b) := by
   unfold castF; rw [List.range_succ]; simp
  refine ⟨_, rfl, ?_⟩
  have g1 : decide ((i : Int) < ((castF S).length : Int)) = true := decide_eq_true (by rw [castF_len]; omega)
  rw [yy12_l12]
  unfold yy12_l12_b
  rw [g1, cond_true, gdd (by omega), gd_true rfl, Int.toNat_natCast, castF_getD, hs, gdd (by omega), gdd (by omega), gdd (by omega), gdd (by omega), Int.toNat_natCast, Int.toNat_natCast, c2, gdd (by omega), gdd (by omega), Int.toNat_natCast, t2, gdd (by omega), gdd (by have := hl.1; omega), Int.toNat_natCast, hl.2 t t1, hnum, Option.getD_some, gdd (by rw [small_eq, castF_len]; simp; omega), hcs, wi_1 i (by omega)]
theorem L8_ok (h : Mch C N E k m) (hp : Pts C N E k p r) (kf : Nat) (hkf : 20000 ≤ kf) (l : List Int) (hl : PL k p l) (q : Q) (S : List Nat) (mp : List (Int × Int)) (hq : Bg (dq C N p r) (Gq C N p) idc k q.length 0 q) (ho : Ord k p q S mp) {J : Nat → Nat → Nat} (hJ : JOk C N p r q J) (v12 : List Int) (v18 : List (List Int)) (v19 : List Bool) (v20 : List (List Int)) (v21 : List Bool)
  (Ke : (List Int) → (List (List Int)) → (List Bool) → (List Int) → (List Int) → (List Int) → (List (List Int)) → (List (List Int)) → (List Bool) → (List (List Int)) → (List Bool) → Option R) (T : Option R)
  (hT : ∀ cl : List Int, (cl.length = 256 ∧ ∀ b, b < 256 → cl.getD b 0 = ((ix (wayN q J) b : Nat) : Int)) → Ke C N E v12 (castF S) cl (waysL (wayN q J) 256) v18 v19 v20 v21 = T) :
  yy12_l8 kf kf Ke 0 C N E v12 l (castF S) mp (List.replicate 256 (0 : Int)) ([] : List (List Int)) v18 v19 v20 v21 = T := by
 have hk2 := h.k2; have hsz := hq.size
 refine loop_inv (fun kk b (acc : List Int) => yy12_l8 kf kk Ke (b : Int) C N E v12 l (castF S) mp acc (waysL (wayN q J) b) v18 v19 v20 v21) T 256 3000
  (fun b acc => acc.length = 256 ∧ ∀ c, c < b → acc.getD c 0 = ((ix (wayN q J) c : Nat) : Int)) ?_ ?_ 256 kf 0 _ (by omega) (by omega) ⟨List.length_replicate, fun c hc => by omega⟩
 ·rintro kk acc ⟨h1, h2⟩
  rw [yy12_l8]
  unfold yy12_l8_b
  rw [decide_eq_false (show ¬ (((256 : Nat) : Int) < 256) by omega), cond_false]
  exact hT acc ⟨h1, h2⟩
 ·rintro kk b acc hB hb ⟨h1, h2⟩
  left
  have hnf := nf_le (wayN q J) b
  have hixb := ix_lt (σ := wayN q J) (show b < b + 1 by omega)
  have hnf1 := nf_le (wayN q J) (b + 1)
  have hw := wi_1 b (show b < 4000000000000000000 by omega)
  have hw8 : ∀ x : Nat, x < 256 → IntKind.u8.wrap (x : Int) = (x : Int) := fun x hx => by rw [IntKind.wrap_u8]; omega
  refine ⟨acc.set b ((ix (wayN q J) b : Nat) : Int), ⟨by rw [List.length_set]; exact h1, fun c hc => ?_⟩, ?_⟩
  ·rw [getD_set']
   by_cases hbc : b = c
   ·subst hbc; rw [if_pos ⟨rfl, by omega⟩]
   ·rw [if_neg (fun q => hbc q.1)]; exact h2 c (by omega)
  ·rw [yy12_l8]
   unfold yy12_l8_b
   rw [decide_eq_true (show (b : Int) < 256 by omega), cond_true, L12_ok h hp kf kk l hl q S mp hq ho (by omega) hJ b hb]
   dsimp only
   rw [indexf_ok kf (by omega) (wayN q J) q.length b hb (by omega) fun b _ => wayN_len q J b]
   cases hf : fstO (wayN q J) b with
   | true =>
    have hws : waysL (wayN q J) b ++ [castF (wayN q J b)] = waysL (wayN q J) (b + 1) := by
     unfold waysL; rw [FL_succ, hf]; simp
    rw [if_pos rfl, decide_eq_true (show (-1 : Int) < 0 by omega), cond_true, gdd (by rw [small_eq, waysL_len]; simp; omega), gdd (by omega), gdd (by omega), Int.toNat_natCast, waysL_len, hw8 _ (by omega), hw, hws, ix_fst hf]
   | false =>
    have hws : waysL (wayN q J) b = waysL (wayN q J) (b + 1) := by
     unfold waysL; rw [FL_succ, hf]; simp
    rw [if_neg (by simp), decide_eq_false (show ¬ (((ix (wayN q J) b : Nat) : Int) < 0) by omega), cond_false, gdd (by omega), gdd (by omega), Int.toNat_natCast, hw8 _ (by omega), hw, ← hws]
def rowN' (q : Q) (J : Nat → Nat → Nat) (i a : Nat) : List Nat := (List.range a).map fun a => J i ((FL (wayN q J) 256).getD a 0)
theorem L27_ok (kf k0 : Nat) (hk : 300 < k0) (q : Q) (hqn : q.length ≤ 2000) (J : Nat → Nat → Nat) (i : Nat) (hi : i < q.length) (v86 v87 v88 : Int) (v91 : List Int) (v92 : List (List Int)) (v93 : List Bool) (v94 v95 v98 : List Int) (v99 : List (List Int)) (v100 : List Bool) (v101 : List (List Int)) (v102 : List Bool)
  (Ke : Int → Int → Int → (List Int) → (List (List Int)) → (List Bool) → (List Int) → (List Int) → (List (List Int)) → (List Int) → (List Int) → (List (List Int)) → (List Bool) → (List (List Int)) → (List Bool) → Option R) :
  yy12_l27 kf k0 (i : Int) v86 v87 v88 ((waysL (wayN q J) 256).length : Int) v91 v92 v93 v94 v95 (waysL (wayN q J) 256) v98 v99 v100 v101 v102 Ke 0 ([] : List Int) =
   Ke v86 v87 v88 v91 v92 v93 v94 v95 (waysL (wayN q J) 256) (castF (rowN' q J i (nf (wayN q J) 256))) v98 v99 v100 v101 v102 := by
 have hnf := nf_le (wayN q J) 256
 refine loop_inv (fun kk a (acc : List Int) => yy12_l27 kf kk (i : Int) v86 v87 v88 ((waysL (wayN q J) 256).length : Int) v91 v92 v93 v94 v95 (waysL (wayN q J) 256) v98 v99 v100 v101 v102 Ke (a : Int) acc) _ (nf (wayN q J) 256) 0
  (fun a acc => acc = castF (rowN' q J i a)) ?_ ?_ (nf (wayN q J) 256) k0 0 [] (by omega) (by omega) rfl
 ·rintro kk acc rfl
  rw [yy12_l27]
  unfold yy12_l27_b
  rw [waysL_len, decide_eq_false (show ¬ (((nf (wayN q J) 256 : Nat) : Int) < ((nf (wayN q J) 256 : Nat) : Int)) by omega), cond_false]
 ·rintro kk a acc _ ha rfl
  left
  refine ⟨_, rfl, ?_⟩
  have g1 : decide ((a : Int) < ((waysL (wayN q J) 256).length : Int)) = true := decide_eq_true (by rw [waysL_len]; omega)
  have hcs : castF (rowN' q J i a) ++ [((J i ((FL (wayN q J) 256).getD a 0) : Nat) : Int)] = castF (rowN' q J i (a + 1)) := by
   unfold castF rowN'; rw [List.range_succ]; simp
  have hrl : (rowN' q J i a).length = a := by unfold rowN'; simp
  rw [yy12_l27]
  unfold yy12_l27_b
  rw [g1, cond_true, gdd (by omega), gd_true rfl, Int.toNat_natCast, Int.toNat_natCast, waysL_getD _ _ _ ha, castF_len, wayN_len, castF_getD, wayN_getD q J _ i hi, gdd (by omega), gdd (by omega), gdd (by rw [small_eq, castF_len]; simp; omega), hcs, wi_1 a (by omega)]
theorem pts_of (h : Mch C N E k m) (p : Nat → Nat) (h1 : Prt C N E k p) : ∃ r, Pts C N E k p r := by
 have : ∀ P, ∃ r, (∃ s, s < k ∧ p s = P) → r < k ∧ p r = P := by
  intro P
  by_cases hP : ∃ s, s < k ∧ p s = P
  ·obtain ⟨s, hs⟩ := hP
   exact ⟨s, fun _ => hs⟩
  ·exact ⟨0, fun q => absurd q hP⟩
 obtain ⟨r, hr⟩ := Classical.axiomOfChoice this
 exact ⟨r, h1, fun s hs => hr (p s) ⟨s, hs, rfl⟩⟩
theorem least_w (h : Mch C N E k m) (kf : Nat) (hkf : 20000 ≤ kf) (K : List Int → List (List Int) → List Bool → Option R) (T : Option R)
  (hT : ∀ (C' : List Int) (N' : List (List Int)) (E' : List Bool) (n' m' : Nat), Mch C' N' E' n' m' → gapless C' → (gapless C → Canon C' N' E' n' m') → Lang C N E C' N' E' → n' ≤ k → m' ≤ m → K C' N' E' = T) : yy12 kf C N E K = T := by
 unfold yy12 yy12_b
 have hE := h.el; have hk2 := h.k2
 rw [may_ok h kf (by omega), Bool.not_true, cond_false]
 refine parts_ok h kf hkf _ T fun p l q1 q2 => ?_
 obtain ⟨r, hp⟩ := pts_of h p q2
 refine order_ok h hp kf (by omega) l q1 _ T fun q S mp hq ho => ?_
 obtain ⟨J, hJ⟩ := J_ex hq
 have hsz := hq.size
 have hlen := ho.len
 refine L8_ok h hp kf hkf l q1 q S mp hq ho hJ _ _ _ _ _ _ T fun cl hcl => ?_
 have hnf := nf_le (wayN q J) 256
 rw [castF_len]
 refine loop_inv (fun kk i (acc : List (List Int) × List Bool) => yy12_l23 kf kk (fun (v118 : List Int) (v119 : List Int) (v120 : List (List Int)) (v121 : List Bool) (v122 : List (List Int)) (v123 : List Bool) => K v119 v122 v123) (S.length : Int) (i : Int) C N E (List.replicate 256 (0 : Int)) cl (waysL (wayN q J) 256) (castF S) ([] : List (List Int)) ([] : List Bool) acc.1 acc.2) T q.length 400
  (fun i acc => acc.1 = (List.range i).map (fun i => castF (rowN' q J i (nf (wayN q J) 256))) ∧ acc.2 = (List.range i).map fun i => E.getD (S.getD i 0) false) ?_ ?_ q.length kf 0 ([], []) (by omega) (by omega) ⟨rfl, rfl⟩
 ·rintro kk ⟨N', E'⟩ ⟨h1, h2⟩
  simp only at h1 h2
  rw [yy12_l23]
  unfold yy12_l23_b
  rw [decide_eq_false (show ¬ ((q.length : Int) < (S.length : Int)) by omega), cond_false]
  dsimp only
  have hNi : ∀ i, i < q.length → N'.getD i [] = castF (rowN' q J i (nf (wayN q J) 256)) := by
   intro i hi
   rw [h1, List.getD_eq_getElem?_getD, List.getElem?_map, List.getElem?_range hi]; rfl
  have hEi : ∀ i, i < q.length → E'.getD i false = E.getD (S.getD i 0) false := by
   intro i hi
   rw [h2, List.getD_eq_getElem?_getD, List.getElem?_map, List.getElem?_range hi]; rfl
  have hlaid := laid_of h hp hq hJ (C' := cl) (N' := N') (E' := E') hcl (by rw [h1]; simp) (fun i hi => ⟨by rw [hNi i hi, castF_len]; unfold rowN'; simp, fun f hf hff => by
   have hlt := nf_lt (c := 256) hff hf
   rw [hNi i hi, castF_getD]
   unfold rowN'
   rw [List.getD_eq_getElem?_getD, List.getElem?_map, List.getElem?_range hlt]
   show ((J i ((FL (wayN q J) 256).getD (nf (wayN q J) f) 0) : Nat) : Int) = _
   rw [FL_getD _ 256 f hf hff]⟩) (by rw [h2]; simp) (fun i hi => by
   obtain ⟨s1, s2⟩ := ho.st i hi
   obtain ⟨r1, r2⟩ := hp.rep _ s1
   show E'.getD i false = _
   rw [hEi i hi, ← s2]
   exact (hp.ends _ _ r1 s1 r2).symm)
  obtain ⟨z1, z2, z3, z4⟩ := laid_canon h hp hq hlaid
  exact hT cl N' E' _ _ z1 z2 z3 z4 hsz (nf_way h hp hq hJ)
 ·rintro kk i ⟨N', E'⟩ hB hi ⟨h1, h2⟩
  simp only at h1 h2
  left
  obtain ⟨s1, s2⟩ := ho.st i hi
  refine ⟨(N' ++ [castF (rowN' q J i (nf (wayN q J) 256))], E' ++ [E.getD (S.getD i 0) false]), ⟨by simp only; rw [h1, List.range_succ]; simp, by simp only; rw [h2, List.range_succ]; simp⟩, ?_⟩
  have hNl : N'.length = i := by rw [h1]; simp
  have hEl : E'.length = i := by rw [h2]; simp
  rw [yy12_l23]
  unfold yy12_l23_b
  rw [decide_eq_true (show (i : Int) < (S.length : Int) by omega), cond_true, gdd (by omega), gdd (by rw [castF_len]; omega), Int.toNat_natCast, castF_getD, L27_ok kf kk (by omega) q (by omega) J i hi]
  dsimp only
  rw [gdd (by rw [small_eq]; simp; omega), gdd (by omega), gdd (by omega), Int.toNat_natCast, gdd (by rw [small_eq]; simp; omega), wi_1 i (by omega)]
end
end Go.Ab.T

/- When two machines are one, and least.Is; what is done at the beginning. -/
namespace Go.Ab.T
open Go Go.Ab
set_option linter.unusedVariables false
set_option linter.unusedSimpArgs false
section
variable {R : Type}
theorem eqI_ok (kf : Nat) (a b : List Int) (hs : a.length + 10 < kf) (hb : a.length ≤ 100000) (K : Bool → Option R) : yy37 kf a b K = K (decide (a = b)) := by
 unfold yy37 yy37_b
 by_cases hl : a.length = b.length
 rotate_left
 ·have hne : a ≠ b := fun h => hl (by rw [h])
  rw [decide_eq_false (show ¬ ((a.length : Int) = (b.length : Int)) by omega), Bool.not_false, cond_true, decide_eq_false hne]
 rw [hl, decide_eq_true rfl, Bool.not_true, cond_false]
 refine loop_inv (fun kk i (_ : Unit) => yy37_l4 kf kk a b (b.length : Int) (fun (v7 : Bool) => K v7) (K true) (i : Int)) _ b.length 0 (fun i _ => ∀ j, j < i → a.getD j 0 = b.getD j 0) ?_ ?_ b.length kf 0 () (by omega) (by omega) (by intro j hj; omega)
 ·intro kk _ hall
  rw [yy37_l4]
  unfold yy37_l4_b
  rw [decide_eq_false (show ¬ ((b.length : Int) < (b.length : Int)) by omega), cond_false]
  have : a = b := ext_getD 0 hl fun i hi => hall i (by omega)
  rw [decide_eq_true this]
 ·intro kk i _ _ hi hall
  have g0 : decide (0 ≤ (i : Int)) = true := decide_eq_true (by omega)
  have g1 : decide ((i : Int) < (a.length : Int)) = true := decide_eq_true (by omega)
  have g2 : decide ((i : Int) < (b.length : Int)) = true := decide_eq_true (by omega)
  by_cases he : a.getD i 0 = b.getD i 0
  ·left
   refine ⟨(), fun j hj => ?_, ?_⟩
   ·by_cases hji : j = i
    ·subst hji; exact he
    ·exact hall j (by omega)
   ·rw [yy37_l4]
    unfold yy37_l4_b
    rw [g2, cond_true, g0, gd_true rfl, g1, gd_true rfl, gd_true rfl, gd_true rfl, Int.toNat_natCast, he, decide_eq_true rfl, Bool.not_true, cond_false, wi_1 i (by omega)]
  ·right
   have hne : a ≠ b := fun h => he (by rw [h])
   rw [yy37_l4]
   unfold yy37_l4_b
   rw [g2, cond_true, g0, gd_true rfl, g1, gd_true rfl, gd_true rfl, gd_true rfl, Int.toNat_natCast, decide_eq_false he, Bool.not_false, cond_true, decide_eq_false hne]
theorem eqB_ok (kf : Nat) (a b : List Bool) (hs : a.length + 10 < kf) (hb : a.length ≤ 100000) (K : Bool → Option R) : yy36 kf a b K = K (decide (a = b)) := by
 unfold yy36 yy36_b
 by_cases hl : a.length = b.length
 rotate_left
 ·have hne : a ≠ b := fun h => hl (by rw [h])
  rw [decide_eq_false (show ¬ ((a.length : Int) = (b.length : Int)) by omega), Bool.not_false, cond_true, decide_eq_false hne]
 rw [hl, decide_eq_true rfl, Bool.not_true, cond_false]
 refine loop_inv (fun kk i (_ : Unit) => yy36_l4 kf kk a b (b.length : Int) (fun (v7 : Bool) => K v7) (K true) (i : Int)) _ b.length 0 (fun i _ => ∀ j, j < i → a.getD j false = b.getD j false) ?_ ?_ b.length kf 0 () (by omega) (by omega) (by intro j hj; omega)
 ·intro kk _ hall
  rw [yy36_l4]
  unfold yy36_l4_b
  rw [decide_eq_false (show ¬ ((b.length : Int) < (b.length : Int)) by omega), cond_false]
  have : a = b := ext_getD false hl fun i hi => hall i (by omega)
  rw [decide_eq_true this]
 ·intro kk i _ _ hi hall
  have g0 : decide (0 ≤ (i : Int)) = true := decide_eq_true (by omega)
  have g1 : decide ((i : Int) < (a.length : Int)) = true := decide_eq_true (by omega)
  have g2 : decide ((i : Int) < (b.length : Int)) = true := decide_eq_true (by omega)
  by_cases he : a.getD i false = b.getD i false
  ·left
   refine ⟨(), fun j hj => ?_, ?_⟩
   ·by_cases hji : j = i
    ·subst hji; exact he
    ·exact hall j (by omega)
   ·rw [yy36_l4]
    unfold yy36_l4_b
    rw [g2, cond_true, g0, gd_true rfl, g1, gd_true rfl, gd_true rfl, gd_true rfl, Int.toNat_natCast, decide_eq_true he, Bool.not_true, cond_false, wi_1 i (by omega)]
  ·right
   have hne : a ≠ b := fun h => he (by rw [h])
   rw [yy36_l4]
   unfold yy36_l4_b
   rw [g2, cond_true, g0, gd_true rfl, g1, gd_true rfl, gd_true rfl, gd_true rfl, Int.toNat_natCast, decide_eq_false he, Bool.not_false, cond_true, decide_eq_false hne]
theorem eqF_ok (kf : Nat) (a b : List (List Int)) (hs : a.length + 300 < kf) (hb : a.length ≤ 100000) (hr : ∀ i, i < a.length → (a.getD i []).length ≤ 256) (K : Bool → Option R) : yy35 kf a b K = K (decide (a = b)) := by
 unfold yy35 yy35_b
 by_cases hl : a.length = b.length
 rotate_left
 ·have hne : a ≠ b := fun h => hl (by rw [h])
  rw [decide_eq_false (show ¬ ((a.length : Int) = (b.length : Int)) by omega), Bool.not_false, cond_true, decide_eq_false hne]
 rw [hl, decide_eq_true rfl, Bool.not_true, cond_false]
 refine loop_inv (fun kk i (_ : Unit) => yy35_l4 kf kk b a (b.length : Int) (fun (v8 : Bool) => K v8) (K true) (i : Int)) _ b.length 0 (fun i _ => ∀ j, j < i → a.getD j [] = b.getD j []) ?_ ?_ b.length kf 0 () (by omega) (by omega) (by intro j hj; omega)
 ·intro kk _ hall
  rw [yy35_l4]
  unfold yy35_l4_b
  rw [decide_eq_false (show ¬ ((b.length : Int) < (b.length : Int)) by omega), cond_false]
  have : a = b := ext_getD [] hl fun i hi => hall i (by omega)
  rw [decide_eq_true this]
 ·intro kk i _ _ hi hall
  have g0 : decide (0 ≤ (i : Int)) = true := decide_eq_true (by omega)
  have g1 : decide ((i : Int) < (a.length : Int)) = true := decide_eq_true (by omega)
  have g2 : decide ((i : Int) < (b.length : Int)) = true := decide_eq_true (by omega)
  have hri := hr i (by omega)
  by_cases he : a.getD i [] = b.getD i []
  ·left
   refine ⟨(), fun j hj => ?_, ?_⟩
   ·by_cases hji : j = i
    ·subst hji; exact he
    ·exact hall j (by omega)
   ·rw [yy35_l4]
    unfold yy35_l4_b yy21 yy21_b
    rw [g2, cond_true, g0, gd_true rfl, g1, gd_true rfl, gd_true rfl, gd_true rfl, Int.toNat_natCast, eqI_ok kf _ _ (by omega) (by omega), decide_eq_true he]
    dsimp only
    rw [Bool.not_true, cond_false, wi_1 i (by omega)]
  ·right
   have hne : a ≠ b := fun h => he (by rw [h])
   rw [yy35_l4]
   unfold yy35_l4_b yy21 yy21_b
   rw [g2, cond_true, g0, gd_true rfl, g1, gd_true rfl, gd_true rfl, gd_true rfl, Int.toNat_natCast, eqI_ok kf _ _ (by omega) (by omega), decide_eq_false he]
   dsimp only
   rw [Bool.not_false, cond_true, decide_eq_false hne]
variable {C : List Int} {N : List (List Int)} {E : List Bool} {k m : Nat}
theorem same_ok (h : Mch C N E k m) (kf : Nat) (hkf : 3000 ≤ kf) (C' : List Int) (N' : List (List Int)) (E' : List Bool) (K : Bool → Option R) : yy20 kf C N E C' N' E' K = K (decide (C = C' ∧ E = E' ∧ N = N')) := by
 unfold yy20 yy20_b
 have hE := h.el; have hN := h.nl; have hk2 := h.k2; have hm2 := h.m2
 by_cases h1 : C = C'
 rotate_left
 ·rw [decide_eq_false h1, cond_false, decide_eq_false fun q => h1 q.1]
 rw [decide_eq_true h1, cond_true, eqB_ok kf _ _ (by omega) (by omega)]
 by_cases h2 : E = E'
 rotate_left
 ·rw [decide_eq_false h2, cond_false, decide_eq_false fun q => h2 q.2.1]
 rw [decide_eq_true h2, cond_true, eqF_ok kf _ _ (by omega) (by omega) fun i hi => by have := (h.row i (by omega)).1; omega]
 by_cases h3 : N = N'
 ·rw [decide_eq_true h3, decide_eq_true ⟨h1, h2, h3⟩]
 ·rw [decide_eq_false h3, decide_eq_false fun q => h3 q.2.2]
theorem is_ok (h : Mch C N E k m) (kf : Nat) (hkf : 20000 ≤ kf) (K : Bool → Option R) (T : Option R)
  (hT : ∀ (C' : List Int) (N' : List (List Int)) (E' : List Bool) (n' m' : Nat), Mch C' N' E' n' m' → gapless C' → (gapless C → Canon C' N' E' n' m') → Lang C N E C' N' E' → n' ≤ k → m' ≤ m → K (decide (C' = C ∧ E' = E ∧ N' = N)) = T) : yy11 kf C N E K = T := by
 unfold yy11 yy11_b
 rw [may_ok h kf (by omega), cond_true]
 refine least_w h kf hkf _ T fun C' N' E' n' m' hM hg hc hL hn hm => ?_
 rw [same_ok hM kf (by omega)]
 exact hT C' N' E' n' m' hM hg hc hL hn hm
theorem Lang.refl (C : List Int) (N : List (List Int)) (E : List Bool) : Lang C N E C N E := fun v hv => rfl
theorem Lang.trans {C C' C2 : List Int} {N N' N2 : List (List Int)} {E E' E2 : List Bool} (h : Lang C N E C' N' E') (h' : Lang C' N' E' C2 N2 E2) : Lang C N E C2 N2 E2 := fun v hv => (h v hv).trans (h' v hv)
theorem is_canon {n : Nat} (hc : Canon C N E n m) (kf : Nat) (hkf : 20000 ≤ kf) (K : Bool → Option R) : yy11 kf C N E K = K true := by
 refine is_ok hc.mch kf hkf K _ fun C' N' E' n' m' _ _ hc' hL _ _ => ?_
 obtain ⟨h1, h2, h3⟩ := (hc' hc.gap).unique hc hL.symm
 rw [decide_eq_true ⟨h1, h3, h2⟩]
theorem rs4_ok (h : Mch C N E k m) (kf k0 : Nat) (hk : 2500 < k0) (C' : List Int) (N' : List (List Int)) (E' : List Bool) (hl : E.length = E'.length) (Kr Ke : Bool → (List Int) → (List (List Int)) → (List Bool) → (List Int) → (List (List Int)) → (List Bool) → Option R) :
  yy30_l4 kf k0 C N E C' N' E' Kr (Ke true) 0 = if E = E' then Ke true C N E C' N' E' else Kr false C N E C' N' E' := by
 have hE := h.el; have hk2 := h.k2
 refine loop_inv (fun kk i (_ : Unit) => yy30_l4 kf kk C N E C' N' E' Kr (Ke true) (i : Int)) _ E.length 0 (fun i _ => ∀ j, j < i → E.getD j false = E'.getD j false) ?_ ?_ E.length k0 0 () (by omega) (by omega) (by intro j hj; omega)
 ·intro kk _ hall
  rw [yy30_l4]
  unfold yy30_l4_b
  rw [decide_eq_false (show ¬ ((E.length : Int) < (E.length : Int)) by omega), cond_false]
  have : E = E' := ext_getD false hl fun i hi => hall i (by omega)
  rw [if_pos this]
 ·intro kk i _ _ hi hall
  have g0 : decide (0 ≤ (i : Int)) = true := decide_eq_true (by omega)
  have g1 : decide ((i : Int) < (E.length : Int)) = true := decide_eq_true (by omega)
  have g2 : decide ((i : Int) < (E'.length : Int)) = true := decide_eq_true (by omega)
  by_cases he : E.getD i false = E'.getD i false
  ·left
   refine ⟨(), fun j hj => ?_, ?_⟩
   ·by_cases hji : j = i
    ·subst hji; exact he
    ·exact hall j (by omega)
   ·rw [yy30_l4]
    unfold yy30_l4_b
    rw [g1, cond_true, g0, gd_true rfl, gd_true rfl, gd_true rfl, g2, gd_true rfl, Int.toNat_natCast, decide_eq_true he, Bool.not_true, cond_false, wi_1 i (by omega)]
  ·right
   have hne : E ≠ E' := fun h => he (by rw [h])
   rw [yy30_l4]
   unfold yy30_l4_b
   rw [g1, cond_true, g0, gd_true rfl, gd_true rfl, gd_true rfl, g2, gd_true rfl, Int.toNat_natCast, decide_eq_false he, Bool.not_false, cond_true, if_neg hne]
theorem rs14_ok (h : Mch C N E k m) (kf k0 : Nat) (hk : 256 < k0) (C' : List Int) (N' : List (List Int)) (E' : List Bool) (hl : N.length = N'.length) (s : Nat) (hs : s < k) (hr : (N.getD s []).length = (N'.getD s []).length)
  (Kr : Bool → Int → (List Int) → (List (List Int)) → (List Bool) → (List Int) → (List (List Int)) → (List Bool) → Option R) (Ke : Int → (List Int) → (List (List Int)) → (List Bool) → (List Int) → (List (List Int)) → (List Bool) → Option R) :
  yy30_l14 kf k0 (s : Int) C N E C' N' E' Kr Ke 0 = if N.getD s [] = N'.getD s [] then Ke (s : Int) C N E C' N' E' else Kr false (s : Int) C N E C' N' E' := by
 have hN := h.nl; have hm2 := h.m2; have hrow := (h.row s hs).1
 have s0 : decide (0 ≤ (s : Int)) = true := decide_eq_true (by omega)
 have s1 : decide ((s : Int) < (N.length : Int)) = true := decide_eq_true (by omega)
 have s2 : decide ((s : Int) < (N'.length : Int)) = true := decide_eq_true (by omega)
 refine loop_inv (fun kk i (_ : Unit) => yy30_l14 kf kk (s : Int) C N E C' N' E' Kr Ke (i : Int)) _ (N.getD s []).length 0 (fun i _ => ∀ j, j < i → (N.getD s []).getD j 0 = (N'.getD s []).getD j 0) ?_ ?_ (N.getD s []).length k0 0 () (by omega) (by omega) (by intro j hj; omega)
 ·intro kk _ hall
  rw [yy30_l14]
  unfold yy30_l14_b
  rw [s0, gd_true rfl, s1, gd_true rfl, Int.toNat_natCast, decide_eq_false (show ¬ (((N.getD s []).length : Int) < ((N.getD s []).length : Int)) by omega), cond_false]
  have : N.getD s [] = N'.getD s [] := ext_getD 0 hr fun i hi => hall i (by omega)
  rw [if_pos this]
 ·intro kk i _ _ hi hall
  have g0 : decide (0 ≤ (i : Int)) = true := decide_eq_true (by omega)
  have g1 : decide ((i : Int) < ((N.getD s []).length : Int)) = true := decide_eq_true (by omega)
  have g2 : decide ((i : Int) < ((N'.getD s []).length : Int)) = true := decide_eq_true (by omega)
  by_cases he : (N.getD s []).getD i 0 = (N'.getD s []).getD i 0
  ·left
   refine ⟨(), fun j hj => ?_, ?_⟩
   ·by_cases hji : j = i
    ·subst hji; exact he
    ·exact hall j (by omega)
   ·rw [yy30_l14]
    unfold yy30_l14_b
    simp only [s0, gd_true, s1, s2, Int.toNat_natCast, g0, g1, g2, cond_true, decide_eq_true he, Bool.not_true, cond_false, wi_1 i (show i < 4000000000000000000 by omega)]
  ·right
   have hne : N.getD s [] ≠ N'.getD s [] := fun h => he (by rw [h])
   rw [yy30_l14]
   unfold yy30_l14_b
   simp only [s0, gd_true, s1, s2, Int.toNat_natCast, g0, g1, g2, cond_true, decide_eq_false he, Bool.not_false, if_neg hne]
theorem rsame_ok (h : Mch C N E k m) (kf : Nat) (hkf : 3000 ≤ kf) (C' : List Int) (N' : List (List Int)) (E' : List Bool) (K : Bool → Option R) : yy30 kf C N E C' N' E' K = K (decide (C = C' ∧ E = E' ∧ N = N')) := by
 unfold yy30 yy30_b
 have hE := h.el; have hN := h.nl; have hk2 := h.k2; have hm2 := h.m2
 dsimp only
 by_cases h1 : C = C'
 rotate_left
 ·rw [decide_eq_false h1, Bool.not_false, cond_true, decide_eq_false fun q => h1 q.1]; rfl
 rw [decide_eq_true h1, Bool.not_true, cond_false]
 by_cases hl : N.length = N'.length
 rotate_left
 ·rw [decide_eq_false (show ¬ ((N.length : Int) = (N'.length : Int)) by omega), Bool.not_false, cond_true, decide_eq_false fun q => hl (by rw [q.2.2])]; rfl
 rw [decide_eq_true (show ((N.length : Int) = (N'.length : Int)) by omega), Bool.not_true, cond_false]
 by_cases hle : E.length = E'.length
 rotate_left
 ·rw [decide_eq_false (show ¬ ((E.length : Int) = (E'.length : Int)) by omega), Bool.not_false, decide_eq_false fun q => hle (by rw [q.2.1])]; rfl
 rw [decide_eq_true (show ((E.length : Int) = (E'.length : Int)) by omega), Bool.not_true, cond_false]
 refine (rs4_ok h kf kf (by omega) C' N' E' hle (fun v15 _ _ _ _ _ _ => K v15) (fun _ v22 v23 v24 v25 v26 v27 => yy30_l9 kf kf (fun v58 => K v58) (K true) 0 v22 v23 v24 v25 v26 v27)).trans ?_
 by_cases h2 : E = E'
 rotate_left
 ·rw [if_neg h2, decide_eq_false fun q => h2 q.2.1]
 rw [if_pos h2]
 refine loop_inv (fun kk s (_ : Unit) => yy30_l9 kf kk (fun v58 => K v58) (K true) (s : Int) C N E C' N' E') _ k 300 (fun i _ => ∀ j, j < i → N.getD j [] = N'.getD j []) ?_ ?_ k kf 0 () (by omega) (by omega) (by intro j hj; omega)
 ·intro kk _ hall
  rw [yy30_l9]
  unfold yy30_l9_b
  rw [decide_eq_false (show ¬ ((k : Int) < (N.length : Int)) by omega), cond_false]
  have : N = N' := ext_getD [] hl fun i hi => hall i (by omega)
  rw [decide_eq_true ⟨h1, h2, this⟩]
 ·intro kk s _ hkk hs hall
  have s0 : decide (0 ≤ (s : Int)) = true := decide_eq_true (by omega)
  have s1 : decide ((s : Int) < (N.length : Int)) = true := decide_eq_true (by omega)
  have s2 : decide ((s : Int) < (N'.length : Int)) = true := decide_eq_true (by omega)
  have hun : yy30_l9 kf (kk + 1) (fun v58 => K v58) (K true) (s : Int) C N E C' N' E' = bif (!(decide (((N.getD s []).length : Int) = ((N'.getD s []).length : Int)))) then K false else yy30_l14 kf kk (s : Int) C N E C' N' E' (fun v43 _ _ _ _ _ _ _ => K v43) (fun v51 v52 v53 v54 v55 v56 v57 => yy30_l9 kf kk (fun v58 => K v58) (K true) (IntKind.i64.wrap (v51 + 1)) v52 v53 v54 v55 v56 v57) 0 := by
   rw [yy30_l9]
   unfold yy30_l9_b
   rw [s1, cond_true, s0, gd_true rfl, gd_true rfl, gd_true rfl, s2, gd_true rfl, Int.toNat_natCast]
  rw [hun]
  by_cases hr : (N.getD s []).length = (N'.getD s []).length
  rotate_left
  ·right
   rw [decide_eq_false (show ¬ (((N.getD s []).length : Int) = ((N'.getD s []).length : Int)) by omega), Bool.not_false, cond_true, decide_eq_false fun q => hr (by rw [q.2.2])]
  have hr' : ((N.getD s []).length : Int) = ((N'.getD s []).length : Int) := by rw [hr]
  rw [decide_eq_true hr', Bool.not_true, cond_false, rs14_ok h kf kk (by omega) C' N' E' hl s hs hr]
  by_cases he : N.getD s [] = N'.getD s []
  ·left
   refine ⟨(), fun j hj => ?_, ?_⟩
   ·by_cases hji : j = s
    ·subst hji; exact he
    ·exact hall j (by omega)
   ·rw [if_pos he, wi_1 s (by omega)]
  ·right
   rw [if_neg he, decide_eq_false fun q => he (by rw [q.2.2])]
end
end Go.Ab.T
