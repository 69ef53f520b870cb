/- CauL: a part of the proofs of this seat's statements. -/
import Derived.Test.YtpflljjomcbnmaaDoorCauTA
import Derived.Laws.BitsLemmas
import Derived.Laws.BitsAllLaws
/- Plain lemmas of loops and lists. -/
namespace Go.Ab.T

/-- a loop that counts up to n: what holds at its head holds on, and at its end (or at a way out) it comes to T -/
theorem loop_inv {α R : Type} (L : Nat → Nat → α → R) (T : R) (n B : Nat) (I : Nat → α → Prop)
    (hexit : ∀ k acc, I n acc → L (k + 1) n acc = T)
    (hstep : ∀ k c acc, B ≤ k → c < n → I c acc → (∃ acc', I (c + 1) acc' ∧ L (k + 1) c acc = L k (c + 1) acc') ∨ L (k + 1) c acc = T) :
    ∀ m k c acc, c + m = n → m + B < k → I c acc → L k c acc = T
  | m, 0, c, acc, _, h, _ => by omega
  | 0, k + 1, c, acc, hc, h, hi => by
    have : c = n := by omega
    subst this
    exact hexit k acc hi
  | m + 1, k + 1, c, acc, hc, h, hi => by
    rcases hstep k c acc (by omega) (by omega) hi with ⟨acc', h1, h2⟩ | h1
    · rw [h2]
      exact loop_inv L T n B I hexit hstep m k (c + 1) acc' (by omega) (by omega) h1
    · exact h1

/-- the same, by what follows -/
theorem loop_all {α R : Type} (L : Nat → Nat → α → R) (T : R) (n B : Nat) (I : Nat → α → Prop)
    (hexit : ∀ k acc, I n acc → L (k + 1) n acc = T)
    (hstep : ∀ k c acc, B ≤ k → c < n → I c acc → (∀ acc', I (c + 1) acc' → L k (c + 1) acc' = T) → L (k + 1) c acc = T) :
    ∀ m k c acc, c + m = n → m + B < k → I c acc → L k c acc = T
  | m, 0, c, acc, _, h, _ => by omega
  | 0, k + 1, c, acc, hc, h, hi => by
    have : c = n := by omega
    subst this
    exact hexit k acc hi
  | m + 1, k + 1, c, acc, hc, h, hi =>
    hstep k c acc (by omega) (by omega) hi fun acc' h' => loop_all L T n B I hexit hstep m k (c + 1) acc' (by omega) (by omega) h'

/-- a loop with a measure -/
theorem loop_meas {α R : Type} (L : Nat → α → R) (T : R) (μ : α → Nat) (B : Nat) (I : α → Prop)
    (hstep : ∀ k acc, B ≤ k → I acc → (∀ acc', I acc' → μ acc' < μ acc → L k acc' = T) → L (k + 1) acc = T) :
    ∀ k acc, μ acc + B < k → I acc → L k acc = T
  | 0, acc, h, _ => by omega
  | k + 1, acc, h, hi => hstep k acc (by omega) hi fun acc' h' hm => loop_meas L T μ B I hstep k acc' (by omega) h'

theorem take_snoc {α : Type} (l : List α) (c : Nat) (h : c < l.length) (d : α) : l.take (c + 1) = l.take c ++ [l.getD c d] := by
  rw [List.take_add_one, List.getD_eq_getElem?_getD, List.getElem?_eq_getElem h]
  rfl
theorem getD_mem {α : Type} (l : List α) (c : Nat) (h : c < l.length) (d : α) : l.getD c d ∈ l := by
  rw [List.getD_eq_getElem?_getD, List.getElem?_eq_getElem h]
  exact List.getElem_mem h
theorem take_all {α : Type} (l : List α) : l.take l.length = l := List.take_length
theorem mem_take {α : Type} {l : List α} {c : Nat} {x : α} (h : x ∈ l.take c) : x ∈ l := List.mem_of_mem_take h
end Go.Ab.T

/- Chains of errors: what the printed functions come to. -/
namespace Go.Ab.T
open Go Go.Ab
set_option linter.unusedVariables false
set_option linter.unusedSimpArgs false

theorem gd_true {R : Type} {b : Bool} (h : b = true) (x : Option R) : gd b x = x := by subst h; rfl
theorem wi_1 (n : Nat) (h : n < 4000000000000000000) : IntKind.i64.wrap ((n : Int) + 1) = ((n + 1 : Nat) : Int) := by rw [IntKind.wrap_i64]; omega

abbrev WW : List (Nat × Nat × Nat) := [(43, 1, 1), (52, 1, 0)]
abbrev fitE (x : Err) : Bool := Err.fit [] [(43, 1, 1), (52, 1, 0)] x

def wr (e : Err) (k : Int) : Err := if k = 0 then e else .wrap 52 [k] e []
def mk1 (l : List Int) (e : Err) : Err := l.foldl wr e
def h0 (at_ k : Int) : Err := if k = 0 then .nil else if k = 6 then .wrap 43 [6] .nil [at_] else .wrap 52 [k] .nil []
def mkE (at_ : Int) : List Int → Err
  | [] => .nil
  | k :: r => mk1 r (h0 at_ k)

def nz (l : List Int) : List Int := l.filter fun k => decide (k ≠ 0)
def lastZ (l : List Int) (d : Int) : Int := ((nz l).getLast?).getD d
def dep : Err → Nat
  | .wrap _ _ x _ => dep x + 1
  | _ => 0

theorem fit_h0 (a k : Int) : fitE (h0 a k) = true := by unfold h0 fitE; split; rfl; split <;> rfl
theorem fit_mk1 : ∀ (l : List Int) (e : Err), fitE e = true → fitE (mk1 l e) = true
  | [], e, h => h
  | k :: r, e, h => by
    refine fit_mk1 r (wr e k) ?_
    unfold wr
    split
    · exact h
    · simp only [fitE, Err.fit] at h ⊢; simp [h]
theorem fit_mkE (a : Int) : ∀ l, fitE (mkE a l) = true
  | [] => rfl
  | k :: r => fit_mk1 r _ (fit_h0 a k)

theorem any_mk1 (n : Int) (hn : n ≠ 0) : ∀ (l : List Int) (e : Err), Err.any n (mk1 l e) = (Err.any n e || l.contains n)
  | [], e => by simp [mk1]
  | k :: r, e => by
    show Err.any n (mk1 r (wr e k)) = _
    rw [any_mk1 n hn r]
    unfold wr
    split
    · rename_i h; subst h
      have : ((0 : Int) == n) = false := by simpa using fun h => hn h.symm
      simp [List.contains_cons, hn]
    · rename_i h
      simp only [Err.any, List.nil_append, List.cons_append, List.getD_cons_zero, List.contains_cons]
      by_cases hk : k = n
      · subst hk; simp
      · have : (n == k) = false := by simpa using fun h => hk (Eq.symm h)
        simp [hk, this]
theorem any_mkE (a n : Int) (hn : n ≠ 0) : ∀ l, Err.any n (mkE a l) = l.contains n
  | [] => rfl
  | k :: r => by
    show Err.any n (mk1 r (h0 a k)) = _
    rw [any_mk1 n hn, List.contains_cons]
    congr 1
    unfold h0
    split
    · rename_i h; subst h; simp [Err.any, hn]
    · split
      · rename_i h; subst h
        simp only [Err.any, List.cons_append, List.getD_cons_zero]
        by_cases h : (6 : Int) = n
        · subst h; simp
        · have : ¬ n = 6 := fun q => h q.symm
          simp [h, this]
      · simp only [Err.any, List.cons_append, List.nil_append, List.getD_cons_zero]
        by_cases h : k = n
        · subst h; simp
        · have : ¬ n = k := fun q => h q.symm
          simp [h, this]
theorem isK_mkE (a n : Int) (l : List Int) : Err.isK n (mkE a l) = (decide (n ≠ 0) && l.contains n) := by
  unfold Err.isK
  by_cases h : n = 0
  · simp [h]
  · rw [decide_eq_false h, cond_false, any_mkE a n h]; simp [h]

theorem num_mk1 : ∀ (l : List Int) (e : Err), Err.num 0 (mk1 l e) = lastZ l (Err.num 0 e)
  | [], e => rfl
  | k :: r, e => by
    show Err.num 0 (mk1 r (wr e k)) = _
    rw [num_mk1 r]
    unfold lastZ nz wr
    by_cases h : k = 0
    · simp [h]
    · simp only [h, if_false, List.filter_cons, decide_true, decide_not, decide_false, Bool.not_false, if_true, ne_eq, not_false_eq_true]
      cases hq : r.filter fun k => !decide (k = 0) with
      | nil => simp [Err.num]
      | cons x q => simp [List.getLast?_cons]
theorem num_mkE (a : Int) : ∀ l, Err.num 0 (mkE a l) = lastZ l 0
  | [] => rfl
  | k :: r => by
    show Err.num 0 (mk1 r (h0 a k)) = _
    rw [num_mk1]
    unfold lastZ nz h0
    by_cases h : k = 0
    · simp [h, Err.num]
    · simp only [h, if_false, List.filter_cons, decide_true, decide_not, decide_false, Bool.not_false, if_true, ne_eq, not_false_eq_true]
      have hk : Err.num 0 (if k = 6 then Err.wrap 43 [6] Err.nil [a] else Err.wrap 52 [k] Err.nil []) = k := by split <;> simp_all [Err.num]
      rw [hk]
      cases hq : r.filter fun k => !decide (k = 0) with
      | nil => simp
      | cons x q => simp [List.getLast?_cons]

theorem find_mk1 : ∀ (l : List Int) (e : Err), Err.find 43 (mk1 l e) = Err.find 43 e
  | [], e => rfl
  | k :: r, e => by
    show Err.find 43 (mk1 r (wr e k)) = _
    rw [find_mk1 r]
    unfold wr
    split
    · rfl
    · simp [Err.find]
theorem find_mkE (a : Int) : ∀ l, Err.find 43 (mkE a l) = if l.head? = some 6 then some (.wrap 43 [6] .nil [a]) else none
  | [] => rfl
  | k :: r => by
    show Err.find 43 (mk1 r (h0 a k)) = _
    rw [find_mk1]
    unfold h0
    by_cases h : k = 0
    · subst h; simp [Err.find]
    · by_cases h6 : k = 6
      · subst h6; simp [Err.find]
      · simp [h, h6, Err.find]
theorem dep_mk1 : ∀ (l : List Int) (e : Err), dep (mk1 l e) = dep e + (nz l).length
  | [], e => rfl
  | k :: r, e => by
    show dep (mk1 r (wr e k)) = _
    rw [dep_mk1 r]
    unfold wr nz
    by_cases h : k = 0
    · simp [h]
    · simp [h, dep, List.filter_cons]; omega
theorem dep_mkE (a : Int) : ∀ l, dep (mkE a l) = (nz l).length
  | [] => rfl
  | k :: r => by
    show dep (mk1 r (h0 a k)) = _
    rw [dep_mk1]
    unfold nz h0
    by_cases h : k = 0
    · simp [h, dep]
    · by_cases h6 : k = 6
      · simp [h6, dep, List.filter_cons]; omega
      · simp [h, h6, dep, List.filter_cons]; omega

/-! ### made -/
theorem getD_drop (l : List Int) (i : Nat) (h : i < l.length) : l.drop i = l.getD i 0 :: l.drop (i + 1) := by
  rw [List.drop_eq_getElem_cons h, List.getD_eq_getElem?_getD, List.getElem?_eq_getElem h]; rfl
theorem made_l3 {R : Type} (kf : Nat) (a : Int) (l : List Int) (hl : l.length ≤ 1000) (K : Err → Option R) : ∀ (m k i : Nat) (e : Err), 1 ≤ i → i + m = l.length → m < k →
    cause_made_l3 kf k a l (l.length : Int) K e (i : Int) = K (mk1 (l.drop i) e)
  | m, 0, i, e, _, _, h => by omega
  | 0, k + 1, i, e, _, hi, _ => by
    have : decide ((i : Int) < (l.length : Int)) = false := decide_eq_false (by omega)
    unfold cause_made_l3 cause_made_l3_b
    rw [this, cond_false, List.drop_eq_nil_of_le (by omega)]; rfl
  | m + 1, k + 1, i, e, h1, hi, hk => by
    have g1 : decide ((i : Int) < (l.length : Int)) = true := decide_eq_true (by omega)
    have g2 : decide (0 ≤ (i : Int)) = true := decide_eq_true (by omega)
    have g3 : decide ((i : Int) = 0) = false := decide_eq_false (by omega)
    unfold cause_made_l3 cause_made_l3_b
    rw [g1, g2, cond_true, gd_true rfl, gd_true rfl, g3, wi_1 i (by omega), getD_drop l i (by omega)]
    have ih := fun e => made_l3 kf a l hl K m k (i + 1) e (by omega) (by omega) (by omega)
    rw [show Int.toNat (i : Int) = i from rfl]
    show (bif decide (l.getD i 0 = 0) then _ else _) = K (mk1 (l.drop (i + 1)) (wr e (l.getD i 0)))
    unfold wr
    by_cases h : l.getD i 0 = 0
    · rw [decide_eq_true h, cond_true, if_pos h]; exact ih e
    · rw [decide_eq_false h, cond_false, if_neg h]
      dsimp only
      rw [cond_false]
      cases decide (l.getD i 0 = 6) <;> exact ih _
theorem made_ok {R : Type} (kf : Nat) (hkf : 1010 ≤ kf) (a : Int) (l : List Int) (hl : l.length ≤ 1000) (K : Err → Option R) : cause_made kf l a K = K (mkE a l) := by
  unfold cause_made cause_made_b
  match kf, hkf with
  | kf + 1, hkf =>
  cases l with
  | nil =>
    unfold cause_made_l3 cause_made_l3_b
    rfl
  | cons x r =>
    have g1 : decide ((0 : Int) < ((x :: r).length : Int)) = true := decide_eq_true (by simp)
    unfold cause_made_l3 cause_made_l3_b
    rw [g1, cond_true, gd_true (b := decide ((0 : Int) ≤ 0)) rfl, gd_true (b := true) rfl]
    have ih := fun e => made_l3 (kf + 1) a (x :: r) hl (fun v => K v) r.length kf 1 e (by omega) (by simp; omega) (by simp at hl; omega)
    have hw : IntKind.i64.wrap ((0 : Int) + 1) = ((1 : Nat) : Int) := wi_1 0 (by omega)
    rw [hw]
    rw [show (x :: r).getD (Int.toNat 0) 0 = x from rfl]
    show (bif decide (x = 0) then _ else _) = K (mk1 r (h0 a x))
    unfold h0
    by_cases h : x = 0
    · rw [decide_eq_true h, cond_true, if_pos h]; exact ih _
    · rw [decide_eq_false h, cond_false, if_neg h]
      dsimp only
      by_cases h6 : x = 6
      · rw [decide_eq_true h6, if_pos h6, cond_true]
        subst h6; exact ih _
      · rw [decide_eq_false h6, if_neg h6, cond_false, cond_false]; exact ih _

/-! ### Chain -/
theorem l4_ok {R : Type} (kf : Nat) (x : Err) (hx : Err.fit [] [(43, 1, 1), (52, 1, 0)] x = true) (l : List Int) (hl : l.length ≤ 1000) (v9 v10 : Int) (v11 : Bool) (v12 v13 v14 : Int) (v15 : Bool) (v16 : Int) (v17 : List Bool) (K : Err → Int → Int → Bool → Int → Int → Int → Bool → Int → (List Bool) → (List Bool) → Option R) :
    ∀ (m k i : Nat) (acc : List Bool), i + m = l.length → acc.length ≤ i → m < k →
    cause_Chain_l4 kf k x l (l.length : Int) v9 v10 v11 v12 v13 v14 v15 v16 v17 K (i : Int) acc = K x v9 v10 v11 v12 v13 v14 v15 v16 v17 (acc ++ (l.drop i).map fun n => Err.isK n x)
  | m, 0, i, acc, _, _, h => by omega
  | 0, k + 1, i, acc, hi, _, _ => by
    have : decide ((i : Int) < (l.length : Int)) = false := decide_eq_false (by omega)
    unfold cause_Chain_l4 cause_Chain_l4_b
    rw [this, cond_false, List.drop_eq_nil_of_le (by omega)]; simp
  | m + 1, k + 1, i, acc, hi, ha, hk => by
    have g1 : decide ((i : Int) < (l.length : Int)) = true := decide_eq_true (by omega)
    have g2 : decide (0 ≤ (i : Int)) = true := decide_eq_true (by omega)
    have g3 : decide (acc.length + ([Err.isK (l.getD (Int.toNat (i : Int)) 0) x] : List Bool).length < SMALL) = true := decide_eq_true (by show _ < 17179869184; simp; omega)
    unfold cause_Chain_l4 cause_Chain_l4_b
    rw [g1, g2, cond_true, gd_true rfl, gd_true rfl, gd_true hx, gd_true g3, wi_1 i (by omega)]
    rw [l4_ok kf x hx l hl v9 v10 v11 v12 v13 v14 v15 v16 v17 K m k (i + 1) _ (by omega) (by simp; omega) (by omega)]
    rw [getD_drop l i (by omega)]
    simp
theorem l12_ok {R : Type} (kf : Nat) (v33 v34 : Int) (v35 : Bool) (v36 v37 v38 : Int) (v39 : Bool) (v41 v42 : List Bool) (K : Int → Int → Bool → Int → Int → Int → Bool → Int → (List Bool) → (List Bool) → Option R) :
    ∀ (x : Err) (hx : Err.fit [] [(43, 1, 1), (52, 1, 0)] x = true) (k d : Nat), d + dep x < 1000000 → dep x < k → cause_Chain_l12 kf k v33 v34 v35 v36 v37 v38 v39 v41 v42 K x (d : Int) = K v33 v34 v35 v36 v37 v38 v39 ((d + dep x : Nat) : Int) v41 v42
  | x, hx, 0, d, _, h => by omega
  | .nil, hx, k + 1, d, _, _ => by unfold cause_Chain_l12 cause_Chain_l12_b; rfl
  | .raw _ _, hx, k + 1, d, _, _ => by simp [Err.fit] at hx
  | .leaf t xs, hx, k + 1, d, _, _ => by simp [Err.fit] at hx
  | .wrap t pre y post, hx, k + 1, d, hd, hk => by
    unfold cause_Chain_l12 cause_Chain_l12_b
    simp only [dep] at hd hk
    have hy : Err.fit [] [(43, 1, 1), (52, 1, 0)] y = true := by simp only [Err.fit, Bool.and_eq_true] at hx; exact hx.2
    rw [show (!(Err.isNil (.wrap t pre y post))) = true from rfl, cond_true, gd_true hx, wi_1 d (by omega)]
    rw [show Err.inner (.wrap t pre y post) = y from rfl, l12_ok kf v33 v34 v35 v36 v37 v38 v39 v41 v42 K y hy k (d + 1) (by omega) (by omega)]
    rw [show d + dep (.wrap t pre y post) = d + 1 + dep y by simp only [dep]; omega]

def atOf (a : Int) (l : List Int) : Int := if l.head? = some 6 then a else 0
def isOf (l : List Int) (n : Int) : Bool := decide (n ≠ 0) && l.contains n
theorem chain_ok {R : Type} (kf : Nat) (hkf : 1010 ≤ kf) (a : Int) (l ask : List Int) (hl : l.length ≤ 1000) (hq : ask.length ≤ 1000) (K : Int → Int → Bool → Int → List Bool → Option R) :
    cause_Chain kf l a ask K = K (lastZ l 0) (atOf a l) (decide (l.head? = some 6)) ((nz l).length : Int) (ask.map (isOf l)) := by
  unfold cause_Chain cause_Chain_b
  rw [made_ok kf hkf a l hl, gd_true (fit_mkE a l)]
  have h4 := l4_ok (R := R) kf (mkE a l) (fit_mkE a l) ask hq
  have hi : (ask.map fun n => Err.isK n (mkE a l)) = ask.map (isOf l) := by
    apply List.map_congr_left; intro n _; exact isK_mkE a n l
  refine (h4 0 0 false 0 (Err.num 0 (mkE a l)) 0 false 0 [] _ ask.length kf 0 [] (by omega) (by simp) (by omega)).trans ?_
  dsimp only
  rw [gd_true (fit_mkE a l), find_mkE, List.nil_append, List.drop_zero, hi]
  have hd : dep (mkE a l) ≤ 1000 := by
    rw [dep_mkE]; exact Nat.le_trans (List.length_filter_le _ _) hl
  have h12 := fun (v30 : Int) (v31 : Bool) (K' : Int → Int → Bool → Int → Int → Int → Bool → Int → (List Bool) → (List Bool) → Option R) => l12_ok (R := R) kf 0 0 false 0 (Err.num 0 (mkE a l)) v30 v31 [] (ask.map (isOf l)) K' (mkE a l) (fit_mkE a l) kf 0 (by omega) (by omega)
  unfold atOf
  by_cases h : l.head? = some 6
  · simp only [if_pos h, optK]
    refine (h12 _ _ _).trans ?_
    rw [num_mkE, dep_mkE, decide_eq_true h]
    simp [Err.num]
  · simp only [if_neg h, optK]
    refine (h12 _ _ _).trans ?_
    rw [num_mkE, dep_mkE, decide_eq_false h]
    simp
end Go.Ab.T

/- Chains of errors: the reference, codes. -/
namespace Go.Ab.T
open Go Go.Ab
set_option linter.unusedVariables false
set_option linter.unusedSimpArgs false

theorem kinds_l4 {R : Type} (kf : Nat) (l : List Int) (hl : l.length ≤ 1000) (Kr : Bool → Option R) (K0 : Option R) : ∀ (m k i : Nat), i + m = l.length → m < k →
    law2_kinds_l4 kf k l Kr K0 (i : Int) = bif (l.drop i).all fun x => decide (0 ≤ x) && decide (x ≤ 16) then K0 else Kr false
  | m, 0, i, _, h => by omega
  | 0, k + 1, i, hi, _ => by
    have : decide ((i : Int) < (l.length : Int)) = false := decide_eq_false (by omega)
    unfold law2_kinds_l4 law2_kinds_l4_b
    rw [this, cond_false, List.drop_eq_nil_of_le (by omega)]; rfl
  | m + 1, k + 1, i, hi, hk => by
    have g1 : decide ((i : Int) < (l.length : Int)) = true := decide_eq_true (by omega)
    have g2 : decide (0 ≤ (i : Int)) = true := decide_eq_true (by omega)
    unfold law2_kinds_l4 law2_kinds_l4_b
    rw [g1, g2, cond_true, gd_true rfl, gd_true rfl, gd_true rfl, gd_true rfl, wi_1 i (by omega), getD_drop l i (by omega)]
    rw [kinds_l4 kf l hl Kr K0 m k (i + 1) (by omega) (by omega)]
    rw [show Int.toNat (i : Int) = i from rfl, List.all_cons]
    dsimp only
    by_cases h1 : l.getD i 0 < 0
    · have : decide (0 ≤ l.getD i 0) = false := decide_eq_false (by omega)
      rw [decide_eq_true h1, this]; rfl
    · have e1 : decide (0 ≤ l.getD i 0) = true := decide_eq_true (by omega)
      rw [decide_eq_false h1, e1, cond_false]
      by_cases h2 : 16 < l.getD i 0
      · have : decide (l.getD i 0 ≤ 16) = false := decide_eq_false (by omega)
        rw [decide_eq_true h2, this]; rfl
      · have : decide (l.getD i 0 ≤ 16) = true := decide_eq_true (by omega)
        rw [decide_eq_false h2, this]; rfl
def kOk (l : List Int) : Bool := decide (l.length ≤ 40) && l.all fun x => decide (0 ≤ x) && decide (x ≤ 16)
theorem kinds_ok {R : Type} (kf : Nat) (hkf : 1010 ≤ kf) (l : List Int) (K : Bool → Option R) : law2_kinds kf l K = K (kOk l) := by
  unfold law2_kinds law2_kinds_b kOk
  by_cases h : 40 < (l.length : Int)
  · rw [decide_eq_true h, cond_true, decide_eq_false (by omega : ¬ l.length ≤ 40)]; rfl
  · rw [decide_eq_false h, cond_false, decide_eq_true (by omega : l.length ≤ 40)]
    refine (kinds_l4 kf l (by omega) _ _ l.length kf 0 (by omega) (by omega)).trans ?_
    rw [List.drop_zero, Bool.true_and]
    cases l.all fun x => decide (0 ≤ x) && decide (x ≤ 16) <;> rfl

theorem in_l2 {R : Type} (kf : Nat) (l : List Int) (n : Int) (hl : l.length ≤ 1000) (K : Bool → Option R) : ∀ (m k i : Nat), i + m = l.length → m < k →
    ref1_in_l2 kf k l n (fun b => K b) (K false) (i : Int) = K ((l.drop i).contains n)
  | m, 0, i, _, h => by omega
  | 0, k + 1, i, hi, _ => by
    have : decide ((i : Int) < (l.length : Int)) = false := decide_eq_false (by omega)
    unfold ref1_in_l2 ref1_in_l2_b
    rw [this, cond_false, List.drop_eq_nil_of_le (by omega)]; rfl
  | m + 1, k + 1, i, hi, hk => by
    have g1 : decide ((i : Int) < (l.length : Int)) = true := decide_eq_true (by omega)
    have g2 : decide (0 ≤ (i : Int)) = true := decide_eq_true (by omega)
    unfold ref1_in_l2 ref1_in_l2_b
    rw [g1, g2, cond_true, gd_true rfl, gd_true rfl, wi_1 i (by omega), getD_drop l i (by omega)]
    rw [in_l2 kf l n hl K m k (i + 1) (by omega) (by omega)]
    rw [show Int.toNat (i : Int) = i from rfl, List.contains_cons]
    by_cases h : l.getD i 0 = n
    · rw [decide_eq_true h, cond_true, h]; simp
    · have : (n == l.getD i 0) = false := by simpa using fun q => h (Eq.symm q)
      rw [decide_eq_false h, cond_false, this, Bool.false_or]
theorem in_ok {R : Type} (kf : Nat) (hkf : 1010 ≤ kf) (l : List Int) (n : Int) (hl : l.length ≤ 1000) (K : Bool → Option R) : ref1_in kf l n K = K (l.contains n) := by
  unfold ref1_in ref1_in_b
  refine (in_l2 kf l n hl K l.length kf 0 (by omega) (by omega)).trans ?_
  rw [List.drop_zero]

theorem rl4 {R : Type} (kf : Nat) (l : List Int) (hl : l.length ≤ 1000) (v5 : Int) (v6 : List Int) (v8 v9 : Int) (v10 : Bool) (v11 v13 v14 : Int) (v15 : Bool) (v16 : Int) (v17 v18 : List Bool) (K : (List Int) → Int → (List Int) → Int → Int → Bool → Int → (List Int) → Int → Int → Bool → Int → (List Bool) → (List Bool) → Option R) :
    ∀ (m k i : Nat) (acc : List Int), i + m = l.length → acc.length ≤ i → m < k →
    ref1_Chain_l4 kf k l v5 v6 v8 v9 v10 v11 v13 v14 v15 v16 v17 v18 K (i : Int) acc = K l v5 v6 v8 v9 v10 v11 (acc ++ nz (l.drop i)) v13 v14 v15 v16 v17 v18
  | m, 0, i, acc, _, _, h => by omega
  | 0, k + 1, i, acc, hi, _, _ => by
    have : decide ((i : Int) < (l.length : Int)) = false := decide_eq_false (by omega)
    unfold ref1_Chain_l4 ref1_Chain_l4_b
    rw [this, cond_false, List.drop_eq_nil_of_le (by omega)]; simp [nz]
  | m + 1, k + 1, i, acc, hi, ha, hk => by
    have g1 : decide ((i : Int) < (l.length : Int)) = true := decide_eq_true (by omega)
    have g2 : decide (0 ≤ (i : Int)) = true := decide_eq_true (by omega)
    have g3 : decide (acc.length + ([l.getD (Int.toNat (i : Int)) 0] : List Int).length < SMALL) = true := decide_eq_true (by show _ < 17179869184; simp; omega)
    have ih := fun acc h => rl4 kf l hl v5 v6 v8 v9 v10 v11 v13 v14 v15 v16 v17 v18 K m k (i + 1) acc (by omega) h (by omega)
    unfold ref1_Chain_l4 ref1_Chain_l4_b
    rw [g1, g2, cond_true, gd_true rfl, gd_true rfl, gd_true rfl, gd_true rfl, gd_true g3, wi_1 i (by omega), getD_drop l i (by omega)]
    rw [show Int.toNat (i : Int) = i from rfl]
    by_cases h : l.getD i 0 = 0
    · rw [decide_eq_true h, Bool.not_true, cond_false, ih acc (by omega)]
      rw [h]; simp [nz]
    · rw [decide_eq_false h, Bool.not_false, cond_true, ih _ (by simp; omega)]
      simp only [nz, List.filter_cons, ne_eq, h, not_false_eq_true, decide_true, if_true, List.append_assoc, List.cons_append, List.nil_append]
theorem nz_contains (l : List Int) (n : Int) (hn : n ≠ 0) : (nz l).contains n = l.contains n := by
  rw [Bool.eq_iff_iff, List.contains_iff_mem, List.contains_iff_mem]
  unfold nz
  rw [List.mem_filter]
  simp [hn]
theorem rl9 {R : Type} (kf : Nat) (hkf : 1010 ≤ kf) (l0 l ask : List Int) (hl0 : l0.length ≤ 1000) (hl : ask.length ≤ 1000) (v34 v37 v38 : Int) (v39 : Bool) (v40 v42 v43 : Int) (v44 : Bool) (v45 : Int) (v46 : List Bool) (v33 : List Int) (K : (List Int) → Int → Int → Int → Bool → Int → (List Int) → Int → Int → Bool → Int → (List Bool) → (List Bool) → Option R) :
    ∀ (m k i : Nat) (acc : List Bool), i + m = ask.length → acc.length ≤ i → m < k →
    ref1_Chain_l9 kf k v33 v34 ask v37 v38 v39 v40 (nz l0) v42 v43 v44 v45 v46 K (i : Int) acc = K v33 v34 v37 v38 v39 v40 (nz l0) v42 v43 v44 v45 v46 (acc ++ (ask.drop i).map (isOf l0))
  | m, 0, i, acc, _, _, h => by omega
  | 0, k + 1, i, acc, hi, _, _ => by
    have : decide ((i : Int) < (ask.length : Int)) = false := decide_eq_false (by omega)
    unfold ref1_Chain_l9 ref1_Chain_l9_b
    rw [this, cond_false, List.drop_eq_nil_of_le (by omega)]; simp
  | m + 1, k + 1, i, acc, hi, ha, hk => by
    have g1 : decide ((i : Int) < (ask.length : Int)) = true := decide_eq_true (by omega)
    have g2 : decide (0 ≤ (i : Int)) = true := decide_eq_true (by omega)
    have g3 : ∀ b : Bool, decide (acc.length + ([b] : List Bool).length < SMALL) = true := fun b => decide_eq_true (by show _ < 17179869184; simp; omega)
    have ih := fun acc h => rl9 kf hkf l0 l ask hl0 hl v34 v37 v38 v39 v40 v42 v43 v44 v45 v46 v33 K m k (i + 1) acc (by omega) h (by omega)
    have hnz : (nz l0).length ≤ 1000 := Nat.le_trans (List.length_filter_le _ _) hl0
    unfold ref1_Chain_l9 ref1_Chain_l9_b
    rw [g1, g2, cond_true, gd_true rfl, gd_true rfl, gd_true rfl, gd_true rfl, gd_true (g3 false), wi_1 i (by omega), getD_drop ask i (by omega)]
    rw [show Int.toNat (i : Int) = i from rfl, in_ok kf hkf _ _ hnz, gd_true (g3 _)]
    by_cases h : ask.getD i 0 = 0
    · rw [decide_eq_true h, Bool.not_true, cond_false, ih _ (by simp; omega), h]
      simp [isOf]
    · rw [decide_eq_false h, Bool.not_false, cond_true, ih _ (by simp; omega), nz_contains l0 _ h]
      generalize ask.getD i 0 = x at h ⊢
      simp [isOf, h]
theorem rchain_ok {R : Type} (kf : Nat) (hkf : 1010 ≤ kf) (a : Int) (l ask : List Int) (hl : l.length ≤ 1000) (hq : ask.length ≤ 1000) (K : Int → Int → Bool → Int → List Bool → Option R) :
    ref1_Chain kf l a ask K = K (lastZ l 0) (atOf a l) (decide (l.head? = some 6)) ((nz l).length : Int) (ask.map (isOf l)) := by
  unfold ref1_Chain ref1_Chain_b
  refine (rl4 kf l hl a ask 0 0 false 0 0 0 false 0 [] [] _ l.length kf 0 [] (by omega) (by simp) (by omega)).trans ?_
  rw [List.nil_append, List.drop_zero]
  refine (rl9 kf hkf l l ask hl hq a 0 0 false 0 0 0 false 0 [] l _ ask.length kf 0 [] (by omega) (by simp) (by omega)).trans ?_
  rw [List.nil_append, List.drop_zero]
  have hnz : (nz l).length ≤ 1000 := Nat.le_trans (List.length_filter_le _ _) hl
  have hp : ∀ {R : Type} (f : Int → Bool → Option R), (bif decide (0 < (l.length : Int)) then gd (decide (0 < (l.length : Int))) (bif decide (l.getD 0 0 = 6) then f a true else f 0 false) else (bif false then f a true else f 0 false)) = f (atOf a l) (decide (l.head? = some 6)) := by
    intro R f
    cases l with
    | nil => rfl
    | cons x r =>
      have : decide (0 < (((x :: r).length : Nat) : Int)) = true := decide_eq_true (by simp)
      rw [this, cond_true, gd_true rfl]
      unfold atOf
      by_cases h : x = 6
      · subst h; simp
      · simp [h]
  have hf : ∀ {R : Type} (f : Int → Option R), (bif decide (0 < ((nz l).length : Int)) then gd (decide (0 ≤ (IntKind.i64.wrap (((nz l).length : Int) - 1)))) (gd (decide ((IntKind.i64.wrap (((nz l).length : Int) - 1)) < ((nz l).length : Int))) (f ((nz l).getD (Int.toNat (IntKind.i64.wrap (((nz l).length : Int) - 1))) (0 : Int)))) else f 0) = f (lastZ l 0) := by
    intro R f
    unfold lastZ
    by_cases h : 0 < (nz l).length
    · have hw : IntKind.i64.wrap (((nz l).length : Int) - 1) = (((nz l).length - 1 : Nat) : Int) := by rw [IntKind.wrap_i64]; omega
      rw [decide_eq_true (by omega : 0 < ((nz l).length : Int)), cond_true, hw, gd_true (decide_eq_true (by omega)), gd_true (decide_eq_true (by omega))]
      rw [show Int.toNat (((nz l).length - 1 : Nat) : Int) = (nz l).length - 1 from rfl, List.getLast?_eq_getElem?, List.getD_eq_getElem?_getD]
    · have : nz l = [] := List.length_eq_zero_iff.1 (by omega)
      rw [this]; rfl
  refine (hf (fun v62 => bif decide (0 < (l.length : Int)) then gd (decide (0 < (l.length : Int))) (bif decide (l.getD 0 0 = 6) then K v62 a true ((nz l).length : Int) (ask.map (isOf l)) else K v62 0 false ((nz l).length : Int) (ask.map (isOf l))) else (bif false then K v62 a true ((nz l).length : Int) (ask.map (isOf l)) else K v62 0 false ((nz l).length : Int) (ask.map (isOf l))))).trans ?_
  exact hp (fun x y => K (lastZ l 0) x y ((nz l).length : Int) (ask.map (isOf l)))

/-! ### Code -/
abbrev ORD : List Int := [12, 16, 9, 6, 8, 7, 10, 11, 14, 1]
def codeOf (l : List Int) : Int := ((ORD.find? fun k => l.contains k).getD (lastZ l 0))
def atC (a : Int) (l : List Int) : Int := if codeOf l = 6 then atOf a l else 0

theorem cl4 {R : Type} (kf : Nat) (a : Int) (l : List Int) (K : Int → Int → Err → Option R) (d : Int) : ∀ (o : List Int) (m k i : Nat), (∀ x ∈ o, x ≠ 0) → o.length ≤ 100 → i + m = o.length → m < k →
    cause_Code_l4 kf k d 0 (mkE a l) (o.length : Int) o K (i : Int) = K (((o.drop i).find? fun k => l.contains k).getD d) 0 (mkE a l)
  | o, m, 0, i, _, _, _, h => by omega
  | o, 0, k + 1, i, ho, hl, hi, _ => by
    have : decide ((i : Int) < (o.length : Int)) = false := decide_eq_false (by omega)
    unfold cause_Code_l4 cause_Code_l4_b
    rw [this, cond_false, List.drop_eq_nil_of_le (by omega)]; rfl
  | o, m + 1, k + 1, i, ho, hl, hi, hk => by
    have g1 : decide ((i : Int) < (o.length : Int)) = true := decide_eq_true (by omega)
    have g2 : decide (0 ≤ (i : Int)) = true := decide_eq_true (by omega)
    unfold cause_Code_l4 cause_Code_l4_b
    rw [g1, g2, cond_true, gd_true rfl, gd_true rfl, gd_true (fit_mkE a l), wi_1 i (by omega), getD_drop o i (by omega)]
    rw [cl4 kf a l K d o m k (i + 1) ho hl (by omega) (by omega), show Int.toNat (i : Int) = i from rfl, isK_mkE]
    have hne : o.getD i 0 ≠ 0 := ho _ (getD_mem o i (by omega) 0)
    rw [decide_eq_true hne, Bool.true_and, List.find?_cons]
    cases l.contains (o.getD i 0) <;> rfl
theorem code_ok {R : Type} (kf : Nat) (hkf : 1010 ≤ kf) (a : Int) (l : List Int) (hl : l.length ≤ 1000) (K : Int → Int → Option R) : cause_Code kf l a K = K (codeOf l) (atC a l) := by
  unfold cause_Code cause_Code_b
  rw [made_ok kf hkf a l hl, gd_true (fit_mkE a l)]
  refine (cl4 kf a l _ (Err.num 0 (mkE a l)) ORD 10 kf 0 (by decide) (by decide) rfl (by omega)).trans ?_
  rw [List.drop_zero, num_mkE]
  show (bif decide (codeOf l = 6) then _ else K (codeOf l) 0) = _
  unfold atC
  by_cases h : codeOf l = 6
  · rw [decide_eq_true h, cond_true, if_pos h, gd_true (fit_mkE a l), find_mkE]
    unfold atOf
    by_cases h2 : l.head? = some 6
    · rw [if_pos h2, if_pos h2]; rfl
    · rw [if_neg h2, if_neg h2]; rfl
  · rw [decide_eq_false h, cond_false, if_neg h]

theorem rc5 {R : Type} (kf : Nat) (l : List Int) (v12 v13 : Int) (v14 : Bool) (v15 : Int) (K : Int → Int → Int → Bool → Int → (List Bool) → Option R) : ∀ (m k : Nat) (d : Int), m ≤ 10 → m < k →
    ref1_Code_l5 kf k ORD v12 v13 v14 v15 (ORD.map (isOf l)) K d ((m : Int) - 1) = K (((ORD.take m).find? fun k => l.contains k).getD d) v12 v13 v14 v15 (ORD.map (isOf l))
  | m, 0, d, _, h => by omega
  | 0, k + 1, d, _, _ => by unfold ref1_Code_l5 ref1_Code_l5_b; rfl
  | m + 1, k + 1, d, hm, hk => by
    have e1 : ((m + 1 : Nat) : Int) - 1 = (m : Int) := by omega
    have hw : IntKind.i64.wrap ((m : Int) - 1) = (m : Int) - 1 := by rw [IntKind.wrap_i64]; omega
    have ih := fun d => rc5 kf l v12 v13 v14 v15 K m k d (by omega) (by omega)
    have hlen : (ORD.map (isOf l)).length = 10 := rfl
    unfold ref1_Code_l5 ref1_Code_l5_b
    rw [e1, decide_eq_true (by omega : 0 ≤ (m : Int)), cond_true, gd_true rfl, gd_true (decide_eq_true (by rw [hlen]; omega)), gd_true rfl, gd_true (decide_eq_true (by show (m : Int) < ((10 : Nat) : Int); omega)), hw, ih, ih]
    rw [show Int.toNat (m : Int) = m from rfl]
    have hml : m < ORD.length := by show m < 10; omega
    have hmem : ORD.getD m 0 ≠ 0 := by
      have := getD_mem ORD m hml 0
      intro h; rw [h] at this; revert this; decide
    have hg : (ORD.map (isOf l)).getD m false = l.contains (ORD.getD m 0) := by
      rw [List.getD_eq_getElem?_getD, List.getElem?_map, List.getD_eq_getElem?_getD, List.getElem?_eq_getElem hml]
      rw [List.getD_eq_getElem?_getD, List.getElem?_eq_getElem hml] at hmem
      simp only [Option.map_some, Option.getD_some, isOf] at hmem ⊢
      rw [decide_eq_true hmem]; rfl
    rw [hg, take_snoc ORD m hml 0, List.find?_append]
    cases hf : (ORD.take m).find? fun k => l.contains k with
    | some x => cases l.contains (ORD.getD m 0) <;> simp
    | none =>
      simp only [Option.none_or, List.find?_cons, List.find?_nil, Option.getD_none]
      cases l.contains (ORD.getD m 0) <;> rfl
theorem rcode_ok {R : Type} (kf : Nat) (hkf : 1010 ≤ kf) (a : Int) (l : List Int) (hl : l.length ≤ 1000) (K : Int → Int → Option R) : ref1_Code kf l a K = K (codeOf l) (atC a l) := by
  unfold ref1_Code ref1_Code_b
  rw [rchain_ok kf hkf a l ORD hl (by decide)]
  have hw : IntKind.i64.wrap (((ORD.length : Nat) : Int) - 1) = ((10 : Nat) : Int) - 1 := by decide
  show ref1_Code_l5 kf kf ORD (lastZ l 0) (atOf a l) _ _ (ORD.map (isOf l)) _ (lastZ l 0) (IntKind.i64.wrap (((ORD.length : Nat) : Int) - 1)) = _
  rw [hw]
  refine (rc5 kf l _ _ _ _ _ 10 kf _ (by omega) (by omega)).trans ?_
  show (bif decide (codeOf l = 6) then K (codeOf l) (atOf a l) else K (codeOf l) 0) = _
  unfold atC
  by_cases h : codeOf l = 6
  · rw [decide_eq_true h, if_pos h]; rfl
  · rw [decide_eq_false h, if_neg h]; rfl

theorem begun_ok {R : Type} (kf : Nat) (hkf : 1010 ≤ kf) (K : Bool → Option R) : law2_begun kf K = K true := by
  unfold law2_begun law2_begun_b
  rw [chain_ok kf hkf 7 [6, 1] [6, 9] (by decide) (by decide), code_ok kf hkf 7 [6, 1] (by decide)]
  rfl
end Go.Ab.T

/- Chains of errors: the laws. -/
namespace Go.Ab.T
open Go Go.Ab
set_option linter.unusedVariables false
set_option linter.unusedSimpArgs false

theorem all_l11 {R : Type} (kf : Nat) (c p c' p' : Int) (b : List Bool) (hb : b.length ≤ 1000) (Kr : Bool → Int → Int → Int → Int → Option R) (Ke : Int → Int → Int → Int → Option R) : ∀ (m k i : Nat), i + m = b.length → m < k →
    law2_CauseAll_l11 kf k c p c' p' b b Kr Ke (i : Int) = Ke c p c' p'
  | m, 0, i, _, h => by omega
  | 0, k + 1, i, hi, _ => by
    have : decide ((i : Int) < (b.length : Int)) = false := decide_eq_false (by omega)
    unfold law2_CauseAll_l11 law2_CauseAll_l11_b
    rw [this, cond_false]
  | m + 1, k + 1, i, hi, hk => by
    have g1 : decide ((i : Int) < (b.length : Int)) = true := decide_eq_true (by omega)
    have g2 : decide (0 ≤ (i : Int)) = true := decide_eq_true (by omega)
    unfold law2_CauseAll_l11 law2_CauseAll_l11_b
    rw [g1, g2, cond_true, gd_true rfl, gd_true rfl, gd_true rfl, gd_true rfl, wi_1 i (by omega), all_l11 kf c p c' p' b hb Kr Ke m k (i + 1) (by omega) (by omega)]
    rw [decide_eq_true rfl, Bool.not_true, cond_false]

theorem kOk_len {l : List Int} (h : kOk l = true) : l.length ≤ 40 := by
  unfold kOk at h
  simp only [Bool.and_eq_true, decide_eq_true_eq] at h
  exact h.1

theorem all_ok {R : Type} (kf : Nat) (hkf : 1010 ≤ kf) (l : List Int) (a : Int) (ask : List Int) (K : Bool → Option R) : law2_CauseAll kf l a ask K = K true := by
  unfold law2_CauseAll law2_CauseAll_b
  rw [begun_ok kf hkf]
  simp only [Bool.not_true, cond_false]
  rw [kinds_ok kf hkf]
  cases h1 : kOk l with
  | false => simp only [Bool.not_false, cond_true]
  | true =>
    simp only [Bool.not_true, cond_false]
    rw [kinds_ok kf hkf]
    cases h2 : kOk ask with
    | false => simp only [Bool.not_false, cond_true]
    | true =>
      have l1 := kOk_len h1
      have l2 := kOk_len h2
      simp only [Bool.not_true, cond_false]
      rw [chain_ok kf hkf a l ask (by omega) (by omega), rchain_ok kf hkf a l ask (by omega) (by omega), code_ok kf hkf a l (by omega), rcode_ok kf hkf a l (by omega)]
      simp only [decide_true, Bool.not_true, cond_false]
      refine (all_l11 kf _ _ _ _ (ask.map (isOf l)) (by rw [List.length_map]; omega) _ _ ask.length kf 0 (by simp) (by omega)).trans ?_
      simp only [decide_true, cond_true]

theorem places_ok {R : Type} (kf : Nat) (hkf : 1010 ≤ kf) (l : List Int) (a : Int) (K : Bool → Option R) : law2_CausePlaces kf l a K = K true := by
  unfold law2_CausePlaces law2_CausePlaces_b
  rw [begun_ok kf hkf]
  simp only [Bool.not_true, cond_false]
  rw [kinds_ok kf hkf]
  cases h1 : kOk l with
  | false => simp only [Bool.not_false, cond_true]
  | true =>
    have l1 := kOk_len h1
    simp only [Bool.not_true, cond_false]
    cases h2 : decide (20 < (l.length : Int)) with
    | true => simp only [cond_true]
    | false =>
      have g : ∀ x : Int, decide (([x] : List Int).length + l.length < SMALL) = true := fun x => decide_eq_true (by show _ < 17179869184; simp; omega)
      rw [cond_false, gd_true (g 6)]
      rw [chain_ok kf hkf a ([6] ++ l) [] (by simp; omega) (by simp), gd_true (g 1), chain_ok kf hkf a ([1] ++ l) [] (by simp; omega) (by simp)]
      have e1 : atOf a ([6] ++ l) = a := rfl
      have e2 : atOf a ([1] ++ l) = 0 := rfl
      have e3 : (nz ([6] ++ l)).length = (nz ([1] ++ l)).length := rfl
      rw [e1, e2, e3]
      have e4 : decide ((([6] ++ l : List Int)).head? = some 6) = true := rfl
      have e5 : decide ((([1] ++ l : List Int)).head? = some 6) = false := rfl
      rw [e4, e5]
      simp only [decide_true, cond_true, Bool.not_false]
      rfl

theorem isOf_map (l : List Int) (i : Nat) (h : i < l.length) (m : List Int) : (l.map (isOf m)).getD i false = isOf m (l.getD i 0) := by
  rw [List.getD_eq_getElem?_getD, List.getElem?_map, List.getD_eq_getElem?_getD, List.getElem?_eq_getElem h]; rfl
theorem isOf_mem {l : List Int} {n : Int} (h : n ∈ l) : isOf l n = !(decide (n = 0)) := by
  unfold isOf
  rw [List.contains_iff_mem.2 h, Bool.and_true]
  simp
theorem wraps_l10 {R : Type} (kf : Nat) (l : List Int) (hl : l.length ≤ 1000) (n v20 v21 : Int) (v22 : Bool) (v23 v24 v25 : Int) (v26 : Bool) (v27 : Int) (Kr : (List Int) → Int → Bool → Int → Int → Bool → Int → Int → Int → Bool → Int → (List Bool) → (List Bool) → Option R) (Ke : (List Int) → Int → Int → Int → Bool → Int → Int → Int → Bool → Int → (List Bool) → (List Bool) → Option R) : ∀ (m k i : Nat), i + m = l.length → m < k →
    law2_CauseWraps_l10 kf k l n v20 v21 v22 v23 v24 v25 v26 v27 (l.map (isOf l)) ((l ++ [n]).map (isOf (l ++ [n]))) Kr Ke (i : Int) = Ke l n v20 v21 v22 v23 v24 v25 v26 v27 (l.map (isOf l)) ((l ++ [n]).map (isOf (l ++ [n])))
  | m, 0, i, _, h => by omega
  | 0, k + 1, i, hi, _ => by
    have : decide ((i : Int) < (l.length : Int)) = false := decide_eq_false (by omega)
    unfold law2_CauseWraps_l10 law2_CauseWraps_l10_b
    rw [this, cond_false]
  | m + 1, k + 1, i, hi, hk => by
    have g1 : decide ((i : Int) < (l.length : Int)) = true := decide_eq_true (by omega)
    have g2 : decide (0 ≤ (i : Int)) = true := decide_eq_true (by omega)
    have g3 : decide ((i : Int) < ((l.map (isOf l)).length : Int)) = true := by rw [List.length_map]; exact g1
    have g4 : decide ((i : Int) < (((l ++ [n]).map (isOf (l ++ [n]))).length : Int)) = true := decide_eq_true (by simp; omega)
    unfold law2_CauseWraps_l10 law2_CauseWraps_l10_b
    rw [g1, g2, g3, g4, cond_true, gd_true rfl, gd_true rfl, gd_true rfl, gd_true rfl, gd_true rfl, gd_true rfl, gd_true rfl, gd_true rfl, wi_1 i (by omega)]
    dsimp only
    rw [wraps_l10 kf l hl n v20 v21 v22 v23 v24 v25 v26 v27 Kr Ke m k (i + 1) (by omega) (by omega)]
    rw [show Int.toNat (i : Int) = i from rfl, isOf_map l i (by omega) l, isOf_map (l ++ [n]) i (by simp; omega) (l ++ [n])]
    have hm : l.getD i 0 ∈ l := getD_mem l i (by omega) 0
    have hg : (l ++ [n]).getD i 0 = l.getD i 0 := by
      rw [List.getD_eq_getElem?_getD, List.getD_eq_getElem?_getD, List.getElem?_append_left (by omega)]
    rw [hg, isOf_mem hm, isOf_mem (List.mem_append_left _ hm)]
    simp only [decide_true, Bool.not_true, cond_false]

theorem wraps_ok {R : Type} (kf : Nat) (hkf : 1010 ≤ kf) (l : List Int) (a n : Int) (K : Bool → Option R) : law2_CauseWraps kf l a n K = K true := by
  unfold law2_CauseWraps law2_CauseWraps_b
  rw [begun_ok kf hkf]
  simp only [Bool.not_true, cond_false]
  rw [kinds_ok kf hkf]
  cases h1 : kOk l with
  | false => simp only [Bool.not_false, cond_true]
  | true =>
    have l1 := kOk_len h1
    simp only [Bool.not_true, cond_false]
    rw [kinds_ok kf hkf]
    cases h2 : kOk [n] with
    | false => simp only [Bool.not_false, cond_true]
    | true =>
      simp only [Bool.not_true, cond_false]
      cases h3 : decide ((l.length : Int) = 0) with
      | true => simp only [cond_true]
      | false =>
        rw [cond_false]
        cases h4 : decide (20 < (l.length : Int)) with
        | true => simp only [cond_true]
        | false =>
          rw [cond_false]
          cases h5 : decide (n = 0) with
          | true => simp only [cond_true]
          | false =>
            have h3 := of_decide_eq_false h3
            have h5 := of_decide_eq_false h5
            have g1 : decide (([] : List Int).length + l.length < SMALL) = true := decide_eq_true (by show _ < 17179869184; simp; omega)
            have g2 : decide ((([] : List Int) ++ l).length + ([n] : List Int).length < SMALL) = true := decide_eq_true (by show _ < 17179869184; simp; omega)
            rw [cond_false, gd_true g1, gd_true g2, List.nil_append, chain_ok kf hkf a l l (by omega) (by omega), gd_true g1]
            rw [show decide (l.length + ([n] : List Int).length < SMALL) = true from g2, gd_true rfl]
            rw [chain_ok kf hkf a (l ++ [n]) (l ++ [n]) (by simp; omega) (by simp; omega)]
            have e1 : decide (((l.map (isOf l)).length : Int) = (l.length : Int)) = true := decide_eq_true (by simp)
            have e2 : decide ((((l ++ [n]).map (isOf (l ++ [n]))).length : Int) = IntKind.i64.wrap ((l.length : Int) + 1)) = true := decide_eq_true (by rw [wi_1 _ (by omega)]; simp)
            rw [e1, e2]
            simp only [Bool.not_true, cond_false]
            refine (wraps_l10 kf l (by omega) n _ _ _ _ _ _ _ _ _ _ l.length kf 0 (by omega) (by omega)).trans ?_
            have e3 : decide ((l.length : Int) < (((l ++ [n]).map (isOf (l ++ [n]))).length : Int)) = true := decide_eq_true (by simp; omega)
            have e4 : decide (0 ≤ (l.length : Int)) = true := decide_eq_true (by omega)
            have e5 : ((l ++ [n]).map (isOf (l ++ [n]))).getD (Int.toNat (l.length : Int)) false = true := by
              rw [show Int.toNat (l.length : Int) = l.length from rfl, isOf_map (l ++ [n]) l.length (by simp) (l ++ [n])]
              have : (l ++ [n]).getD l.length 0 = n := by simp
              rw [this, isOf_mem (by simp)]
              simp [h5]
            have e6 : nz (l ++ [n]) = nz l ++ [n] := by simp [nz, h5]
            have e7 : lastZ (l ++ [n]) 0 = n := by unfold lastZ; rw [e6]; simp
            have e8 : (l ++ [n]).head? = l.head? := by
              cases l with
              | nil => exact absurd rfl h3
              | cons x r => rfl
            have hz := List.length_filter_le (fun k => decide (k ≠ 0)) l
            have e9 : decide (((nz (l ++ [n])).length : Int) = IntKind.i64.wrap (((nz l).length : Int) + 1)) = true := decide_eq_true (by
              rw [wi_1 _ (by unfold nz; omega), e6]; simp)
            have e10 : atOf a (l ++ [n]) = atOf a l := by unfold atOf; rw [e8]
            rw [e3, e4, gd_true rfl, gd_true rfl, e5, cond_true, e7, e9, e8, e10]
            simp only [decide_true, cond_true]

/-! ### codes -/
def lst (l o : List Int) : Bool := l.any fun x => o.contains x
theorem codes_l15 {R : Type} (kf : Nat) (l : List Int) (v19 v20 v21 v22 : Int) (j : Nat) (hj : j < l.length) (o : List Int) (ho : o.length ≤ 1000) (Ke : (List Int) → Int → Int → Int → Int → Bool → Int → (List Int) → Option R) : ∀ (m k i : Nat) (b : Bool), i + m = o.length → m < k →
    law2_CauseCodes_l15 kf k l v19 v20 v21 v22 (j : Int) o Ke b (i : Int) = Ke l v19 v20 v21 v22 (b || (o.drop i).contains (l.getD j 0)) (j : Int) o
  | m, 0, i, b, _, h => by omega
  | 0, k + 1, i, b, hi, _ => by
    have : decide ((i : Int) < (o.length : Int)) = false := decide_eq_false (by omega)
    unfold law2_CauseCodes_l15 law2_CauseCodes_l15_b
    rw [this, cond_false, List.drop_eq_nil_of_le (by omega)]; simp
  | m + 1, k + 1, i, b, hi, hk => by
    have g1 : decide ((i : Int) < (o.length : Int)) = true := decide_eq_true (by omega)
    have g2 : decide (0 ≤ (i : Int)) = true := decide_eq_true (by omega)
    have g3 : decide ((j : Int) < (l.length : Int)) = true := decide_eq_true (by omega)
    have g4 : decide (0 ≤ (j : Int)) = true := decide_eq_true (by omega)
    have ih := fun b => codes_l15 kf l v19 v20 v21 v22 j hj o ho Ke m k (i + 1) b (by omega) (by omega)
    unfold law2_CauseCodes_l15 law2_CauseCodes_l15_b
    rw [g1, g2, g3, g4, cond_true, gd_true rfl, gd_true rfl, gd_true rfl, gd_true rfl, wi_1 i (by omega), ih, ih, getD_drop o i (by omega)]
    rw [show Int.toNat (i : Int) = i from rfl, show Int.toNat (j : Int) = j from rfl, List.contains_cons]
    cases b
    · simp only [cond_false, Bool.false_or, Bool.beq_eq_decide_eq]
    · simp
theorem codes_l12 {R : Type} (kf : Nat) (hkf : 1010 ≤ kf) (l : List Int) (hl : l.length ≤ 1000) (v19 v20 v21 v22 : Int) (o : List Int) (ho : o.length ≤ 900) (Ke : (List Int) → Int → Int → Int → Int → Bool → Option R) : ∀ (m k i : Nat) (b : Bool), i + m = l.length → m + o.length + 2 < k →
    law2_CauseCodes_l12 kf k Ke l v19 v20 v21 v22 b (i : Int) o = Ke l v19 v20 v21 v22 (b || lst (l.drop i) o)
  | m, 0, i, b, _, h => by omega
  | 0, k + 1, i, b, hi, _ => by
    have : decide ((i : Int) < (l.length : Int)) = false := decide_eq_false (by omega)
    unfold law2_CauseCodes_l12 law2_CauseCodes_l12_b
    rw [this, cond_false, List.drop_eq_nil_of_le (by omega)]; simp [lst]
  | m + 1, k + 1, i, b, hi, hk => by
    have g1 : decide ((i : Int) < (l.length : Int)) = true := decide_eq_true (by omega)
    unfold law2_CauseCodes_l12 law2_CauseCodes_l12_b
    rw [g1, cond_true]
    refine (codes_l15 kf l v19 v20 v21 v22 i (by omega) o (by omega) _ o.length k 0 b (by omega) (by omega)).trans ?_
    rw [wi_1 i (by omega), codes_l12 kf hkf l hl v19 v20 v21 v22 o ho Ke m k (i + 1) _ (by omega) (by omega), getD_drop l i (by omega), List.drop_zero]
    unfold lst
    rw [List.any_cons, Bool.or_assoc]

theorem codeOf_rot (l : List Int) (r : Nat) (h : lst l ORD = true) : codeOf l = codeOf (l.drop r ++ l.take r) := by
  have hc : ∀ k, (l.drop r ++ l.take r).contains k = l.contains k := by
    intro k
    rw [Bool.eq_iff_iff, List.contains_iff_mem, List.contains_iff_mem]
    constructor
    · intro h
      rcases List.mem_append.1 h with h | h
      · exact List.mem_of_mem_drop h
      · exact List.mem_of_mem_take h
    · intro h
      rw [← List.take_append_drop r l] at h
      rcases List.mem_append.1 h with h | h
      · exact List.mem_append_right _ h
      · exact List.mem_append_left _ h
  unfold codeOf
  have : (fun k => (l.drop r ++ l.take r).contains k) = fun k => l.contains k := funext hc
  rw [this]
  cases hf : ORD.find? fun k => l.contains k with
  | some x => rfl
  | none =>
    exfalso
    rw [List.find?_eq_none] at hf
    unfold lst at h
    rw [List.any_eq_true] at h
    obtain ⟨x, hx, h⟩ := h
    exact hf x (List.contains_iff_mem.1 h) (List.contains_iff_mem.2 hx)

theorem codes_ok {R : Type} (kf : Nat) (hkf : 1010 ≤ kf) (l : List Int) (a t : Int) (ht : 0 ≤ t ∧ t ≤ 255) (K : Bool → Option R) : law2_CauseCodes kf l a t K = K true := by
  unfold law2_CauseCodes law2_CauseCodes_b
  rw [begun_ok kf hkf]
  simp only [Bool.not_true, cond_false]
  rw [kinds_ok kf hkf]
  cases h1 : kOk l with
  | false => simp only [Bool.not_false, cond_true]
  | true =>
    have l1 := kOk_len h1
    simp only [Bool.not_true, cond_false]
    cases h3 : decide ((l.length : Int) = 0) with
    | true => simp only [cond_true]
    | false =>
      rw [cond_false]
      cases h4 : decide (20 < (l.length : Int)) with
      | true => simp only [cond_true]
      | false =>
        have h3 := of_decide_eq_false h3
        have hw : IntKind.i64.wrap t = t := by rw [IntKind.wrap_i64]; omega
        obtain ⟨r, hr⟩ : ∃ r : Nat, Int.tmod t (l.length : Int) = (r : Int) := ⟨(Int.tmod t (l.length : Int)).toNat, (Int.toNat_of_nonneg (Int.tmod_nonneg _ ht.1)).symm⟩
        have hlt : Int.tmod t (l.length : Int) < (l.length : Int) := Int.tmod_lt_of_pos _ (by omega)
        rw [hr] at hlt
        have g1 : decide ((l.length : Int) ≠ 0) = true := decide_eq_true h3
        have g2 : decide (0 ≤ (r : Int)) = true := decide_eq_true (by omega)
        have g3 : decide ((r : Int) ≤ (l.length : Int)) = true := decide_eq_true (by omega)
        have g4 : decide (([] : List Int).length + (l.drop r).length < SMALL) = true := decide_eq_true (by show _ < 17179869184; simp; omega)
        have g5 : decide ((l.drop r).length + (l.take r).length < SMALL) = true := decide_eq_true (by show _ < 17179869184; simp; omega)
        rw [cond_false, hw, hr, show Int.toNat (r : Int) = r from rfl, List.nil_append, g1, g2, g3, g4, g5, gd_true rfl, gd_true rfl, gd_true rfl, gd_true rfl, gd_true rfl, gd_true rfl, gd_true rfl]
        have hlen : (l.drop r ++ l.take r).length ≤ 1000 := by simp; omega
        rw [code_ok kf hkf a l (by omega), code_ok kf hkf a _ hlen]
        refine (codes_l12 kf hkf l (by omega) a (codeOf l) (atC a l) (codeOf (l.drop r ++ l.take r)) ORD (by decide) _ l.length kf 0 false (by omega) (by show l.length + 10 + 2 < kf; omega)).trans ?_
        rw [List.drop_zero, Bool.false_or]
        have hv : (bif decide (codeOf l = 6) then gd (decide (0 < (l.length : Int))) (some (decide (l.getD 0 0 = 6))) else some false) = some (decide (codeOf l = 6) && decide (l.head? = some 6)) := by
          cases decide (codeOf l = 6) with
          | false => rfl
          | true =>
            rw [cond_true, gd_true (decide_eq_true (by omega))]
            cases l with
            | nil => exact absurd rfl h3
            | cons x r => simp
        have hj : ∀ J : Bool → Option R, (bif decide (codeOf l = 6) then gd (decide (0 < (l.length : Int))) (J (decide (l.getD 0 0 = 6))) else J false) = J (decide (codeOf l = 6) && decide (l.head? = some 6)) := by
          intro J
          cases decide (codeOf l = 6) with
          | false => rfl
          | true =>
            rw [cond_true, gd_true (decide_eq_true (by omega))]
            cases l with
            | nil => exact absurd rfl h3
            | cons x r => simp
        refine (hj (fun q => bif !(lst l ORD) then bif decide (atC a l = 0) then bif !q then K true else K (decide (atC a l = a)) else bif q then bif !q then K true else K (decide (atC a l = a)) else K false else bif decide (codeOf l = codeOf (l.drop r ++ l.take r)) then bif decide (atC a l = 0) then bif !q then K true else K (decide (atC a l = a)) else bif q then bif !q then K true else K (decide (atC a l = a)) else K false else K false)).trans ?_
        have hr2 : lst l ORD = true → codeOf l = codeOf (l.drop r ++ l.take r) := codeOf_rot l r
        generalize codeOf (l.drop r ++ l.take r) = c' at *
        have ha : atC a l = bif (decide (codeOf l = 6) && decide (l.head? = some 6)) then a else 0 := by
          unfold atC atOf
          by_cases e1 : codeOf l = 6
          · rw [if_pos e1, decide_eq_true e1, Bool.true_and]
            by_cases e2 : l.head? = some 6
            · rw [if_pos e2, decide_eq_true e2]; rfl
            · rw [if_neg e2, decide_eq_false e2]; rfl
          · rw [if_neg e1, decide_eq_false e1]; rfl
        rw [ha]
        cases decide (codeOf l = 6) && decide (l.head? = some 6) with
        | false =>
          cases hq : lst l ORD with
          | false => simp
          | true => simp [hr2 hq]
        | true =>
          cases hq : lst l ORD with
          | false => by_cases h0 : a = 0 <;> simp [h0]
          | true => by_cases h0 : a = 0 <;> simp [hr2 hq, h0]
end Go.Ab.T
