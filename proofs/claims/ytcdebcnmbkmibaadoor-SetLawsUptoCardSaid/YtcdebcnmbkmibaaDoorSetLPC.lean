/- SetLPC: a part of the proofs of this seat's statements. -/
import Derived.Test.YtcdebcnmbkmibaaDoorSetLPB
import Derived.Test.YtcdebcnmbkmibaaDoorSetLJP
/- Plain lemmas of loops and lists. -/
namespace Go.Ab.T

/-- a loop that counts up to n: what holds at its head holds on, and at its end (or at a way out) it comes to T -/
theorem loop_inv {α R : Type} (L : Nat → Nat → α → R) (T : R) (n B : Nat) (I : Nat → α → Prop)
    (hexit : ∀ k acc, I n acc → L (k + 1) n acc = T)
    (hstep : ∀ k c acc, B ≤ k → c < n → I c acc → (∃ acc', I (c + 1) acc' ∧ L (k + 1) c acc = L k (c + 1) acc') ∨ L (k + 1) c acc = T) :
    ∀ m k c acc, c + m = n → m + B < k → I c acc → L k c acc = T
  | m, 0, c, acc, _, h, _ => by omega
  | 0, k + 1, c, acc, hc, h, hi => by
    have : c = n := by omega
    subst this
    exact hexit k acc hi
  | m + 1, k + 1, c, acc, hc, h, hi => by
    rcases hstep k c acc (by omega) (by omega) hi with ⟨acc', h1, h2⟩ | h1
    · rw [h2]
      exact loop_inv L T n B I hexit hstep m k (c + 1) acc' (by omega) (by omega) h1
    · exact h1

/-- the same, by what follows -/
theorem loop_all {α R : Type} (L : Nat → Nat → α → R) (T : R) (n B : Nat) (I : Nat → α → Prop)
    (hexit : ∀ k acc, I n acc → L (k + 1) n acc = T)
    (hstep : ∀ k c acc, B ≤ k → c < n → I c acc → (∀ acc', I (c + 1) acc' → L k (c + 1) acc' = T) → L (k + 1) c acc = T) :
    ∀ m k c acc, c + m = n → m + B < k → I c acc → L k c acc = T
  | m, 0, c, acc, _, h, _ => by omega
  | 0, k + 1, c, acc, hc, h, hi => by
    have : c = n := by omega
    subst this
    exact hexit k acc hi
  | m + 1, k + 1, c, acc, hc, h, hi =>
    hstep k c acc (by omega) (by omega) hi fun acc' h' => loop_all L T n B I hexit hstep m k (c + 1) acc' (by omega) (by omega) h'

/-- a loop with a measure -/
theorem loop_meas {α R : Type} (L : Nat → α → R) (T : R) (μ : α → Nat) (B : Nat) (I : α → Prop)
    (hstep : ∀ k acc, B ≤ k → I acc → (∀ acc', I acc' → μ acc' < μ acc → L k acc' = T) → L (k + 1) acc = T) :
    ∀ k acc, μ acc + B < k → I acc → L k acc = T
  | 0, acc, h, _ => by omega
  | k + 1, acc, h, hi => hstep k acc (by omega) hi fun acc' h' hm => loop_meas L T μ B I hstep k acc' (by omega) h'

theorem take_snoc {α : Type} (l : List α) (c : Nat) (h : c < l.length) (d : α) : l.take (c + 1) = l.take c ++ [l.getD c d] := by
  rw [List.take_add_one, List.getD_eq_getElem?_getD, List.getElem?_eq_getElem h]
  rfl
theorem getD_mem {α : Type} (l : List α) (c : Nat) (h : c < l.length) (d : α) : l.getD c d ∈ l := by
  rw [List.getD_eq_getElem?_getD, List.getElem?_eq_getElem h]
  exact List.getElem_mem h
theorem take_all {α : Type} (l : List α) : l.take l.length = l := List.take_length
theorem mem_take {α : Type} {l : List α} {c : Nat} {x : α} (h : x ∈ l.take c) : x ∈ l := List.mem_of_mem_take h
end Go.Ab.T

/- Sets, by who is in: of a list, of a range, joins, lists. -/
namespace Go.Ab.T
open Go Go.Ab
set_option linter.unusedVariables false
set_option linter.unusedSimpArgs false

theorem ex_set (p : Nat → Bool) : ∀ n, n ≤ 256 → ∃ r, isSet r ∧ ∀ b, mem r b = (decide (b < n) && p b)
  | 0, _ => ⟨List.replicate 4 0, zero_isSet, fun b => by rw [mem_zero]; simp⟩
  | n + 1, h => by
    obtain ⟨r, h1, h2⟩ := ex_set p n (by omega)
    cases hp : p n with
    | false =>
      refine ⟨r, h1, fun b => ?_⟩
      rw [h2]
      by_cases hb : b = n
      · subst hb; simp [hp]
      · have : decide (b < n + 1) = decide (b < n) := decide_eq_decide.2 (by omega)
        rw [this]
    | true =>
      obtain ⟨q1, q2⟩ := put_mem h1 n (by omega)
      refine ⟨_, q1, fun b => ?_⟩
      rw [q2, h2]
      by_cases hb : n = b
      · subst hb; simp [hp]
      · have : decide (b < n + 1) = decide (b < n) := decide_eq_decide.2 (by omega)
        rw [this, decide_eq_false hb, Bool.or_false]

noncomputable def setOf (p : Nat → Bool) : List Int := (ex_set p 256 (Nat.le_refl _)).choose
theorem setOf_isSet (p : Nat → Bool) : isSet (setOf p) := (ex_set p 256 (Nat.le_refl _)).choose_spec.1
theorem mem_setOf (p : Nat → Bool) (b : Nat) (hb : b < 256) : mem (setOf p) b = p b := by
  have := (ex_set p 256 (Nat.le_refl _)).choose_spec.2 b
  rw [decide_eq_true hb, Bool.true_and] at this
  exact this
theorem eq_setOf {s : List Int} (hs : isSet s) {p : Nat → Bool} (h : ∀ b, b < 256 → mem s b = p b) : s = setOf p :=
  set_ext hs (setOf_isSet p) fun b hb => by rw [h b hb, mem_setOf p b hb]
theorem setOf_congr {p q : Nat → Bool} (h : ∀ b, b < 256 → p b = q b) : setOf p = setOf q :=
  eq_setOf (setOf_isSet p) fun b hb => by rw [mem_setOf p b hb, h b hb]
theorem setOf_inj {p q : Nat → Bool} (h : setOf p = setOf q) (b : Nat) (hb : b < 256) : p b = q b := by
  rw [← mem_setOf p b hb, h, mem_setOf q b hb]
theorem setOf_mem {s : List Int} (hs : isSet s) : setOf (mem s) = s := (eq_setOf hs fun _ _ => rfl).symm
theorem zero_setOf : List.replicate 4 (0 : Int) = setOf fun _ => false := eq_setOf zero_isSet fun b _ => mem_zero b

theorem range_s {R : Type} (kf : Nat) (hkf : 300 ≤ kf) (f t : Nat) (hf : f < 256) (ht : t < 256) (K : List Int → Option R) : byteset_Range kf (f : Int) (t : Int) K = K (setOf fun b => decide (f ≤ b ∧ b ≤ t)) := by
  obtain ⟨r, h1, h2, h3⟩ := range_ok kf hkf f t hf ht
  rw [h3, eq_setOf h1 fun b _ => h2 b]
theorem has_s {R : Type} (p : Nat → Bool) (b : Nat) (hb : b < 256) (K : Bool → Option R) : byteset_Has (setOf p) (b : Int) K = K (p b) := by
  rw [has_ok _ (setOf_isSet p) b hb, mem_setOf p b hb]
theorem and_s {R : Type} (kf : Nat) (hkf : 300 ≤ kf) (p q : Nat → Bool) (K : List Int → Option R) : byteset_And kf (setOf p) (setOf q) K = K (setOf fun b => p b && q b) := by
  rw [and_ok kf (by omega) (setOf_isSet p) (setOf_isSet q)]
  congr 1
  exact eq_setOf (and_isSet (setOf_isSet p) (setOf_isSet q)) fun b hb => by rw [mem_and (setOf_isSet p) (setOf_isSet q) b hb, mem_setOf p b hb, mem_setOf q b hb]
theorem or_s {R : Type} (kf : Nat) (hkf : 300 ≤ kf) (p q : Nat → Bool) (K : List Int → Option R) : byteset_Or kf (setOf p) (setOf q) K = K (setOf fun b => p b || q b) := by
  rw [or_ok kf (by omega) (setOf_isSet p) (setOf_isSet q)]
  congr 1
  exact eq_setOf (or_isSet (setOf_isSet p) (setOf_isSet q)) fun b hb => by rw [mem_or (setOf_isSet p) (setOf_isSet q) b hb, mem_setOf p b hb, mem_setOf q b hb]
theorem not_s {R : Type} (kf : Nat) (hkf : 300 ≤ kf) (p : Nat → Bool) (K : List Int → Option R) : byteset_Not kf (setOf p) K = K (setOf fun b => !p b) := by
  rw [not_ok kf (by omega) (setOf_isSet p)]
  congr 1
  exact eq_setOf (not_isSet (setOf_isSet p)) fun b hb => by rw [mem_not (setOf_isSet p) b hb, mem_setOf p b hb]

/-- those that are in, rising -/
def listOf (p : Nat → Bool) : List Int := ((List.range 256).filter p).map fun b : Nat => (b : Int)
theorem elems_setOf (p : Nat → Bool) : elems (setOf p) 0 256 = listOf p := by
  unfold elems listOf
  rw [List.range_eq_range']
  congr 1
  apply List.filter_congr
  intro b hb
  have : b < 256 := by
    rw [List.mem_range'_1] at hb; omega
  exact mem_setOf p b this
theorem list_s {R : Type} (kf : Nat) (hkf : 300 ≤ kf) (p : Nat → Bool) (K : List Int → Option R) : byteset_List kf (setOf p) K = K (listOf p) := by
  rw [list_ok kf hkf _ (setOf_isSet p), elems_setOf]
theorem len_s {R : Type} (kf : Nat) (hkf : 300 ≤ kf) (p : Nat → Bool) (K : Int → Option R) : byteset_Len kf (setOf p) K = K ((listOf p).length : Int) := by
  rw [len_ok kf (by omega) (setOf_isSet p), elems_setOf]

def aheadP (p q : Nat → Bool) : Prop := ∃ b, b < 256 ∧ p b = true ∧ q b = false ∧ ∀ c, c < b → p c = q c
theorem ahead_setOf (p q : Nat → Bool) : ahead (setOf p) (setOf q) ↔ aheadP p q := by
  unfold ahead aheadP
  constructor
  · rintro ⟨b, hb, h1, h2, h3⟩
    rw [mem_setOf p b hb] at h1
    rw [mem_setOf q b hb] at h2
    exact ⟨b, hb, h1, h2, fun c hc => by have := h3 c hc; rwa [mem_setOf p c (by omega), mem_setOf q c (by omega)] at this⟩
  · rintro ⟨b, hb, h1, h2, h3⟩
    exact ⟨b, hb, by rw [mem_setOf p b hb]; exact h1, by rw [mem_setOf q b hb]; exact h2, fun c hc => by rw [mem_setOf p c (by omega), mem_setOf q c (by omega)]; exact h3 c hc⟩
theorem less_s (kf : Nat) (hkf : 300 ≤ kf) (p q : Nat → Bool) : ∃ r : Bool, (r = true ↔ aheadP p q) ∧ ∀ {R : Type} (K : Bool → Option R), byteset_Less kf (setOf p) (setOf q) K = K r := by
  obtain ⟨r, h1, h2⟩ := less_ok kf (by omega) (setOf_isSet p) (setOf_isSet q)
  exact ⟨r, by rw [h1, ahead_setOf], h2⟩

/-! ### the set of a list -/
def isB (l : List Int) : Prop := ∀ x ∈ l, 0 ≤ x ∧ x ≤ 255
theorem idx64 (y : Nat) (hy : y < 256) : IntKind.u8.wrap (Int.tdiv (y : Int) 64) = ((y / 64 : Nat) : Int) := by
  rw [Int.tdiv_eq_ediv_of_nonneg (by omega), IntKind.wrap_u8]; omega
theorem mod64 (y : Nat) : Int.tmod (y : Int) 64 = ((y % 64 : Nat) : Int) := by
  rw [Int.tmod_eq_emod_of_nonneg (by omega)]; omega

theorem of_step {l : List Int} (hl : isB l) {c : Nat} (hc : c < l.length) {acc : List Int} (h : isSet acc ∧ ∀ b, b < 256 → mem acc b = decide ((b : Int) ∈ l.take c)) :
    ∃ y : Nat, y < 256 ∧ l.getD c 0 = (y : Int) ∧ (isSet (acc.set (y / 64) (bvop .u64 .or (acc.getD (y / 64) 0) (shl .u64 1 ((y % 64 : Nat) : Int)))) ∧
      ∀ b, b < 256 → mem (acc.set (y / 64) (bvop .u64 .or (acc.getD (y / 64) 0) (shl .u64 1 ((y % 64 : Nat) : Int)))) b = decide ((b : Int) ∈ l.take (c + 1))) := by
  obtain ⟨h0, h1⟩ := hl _ (getD_mem l c hc 0)
  obtain ⟨y, hy⟩ := Int.eq_ofNat_of_zero_le h0
  have hy' : y < 256 := by omega
  obtain ⟨p1, p2⟩ := put_mem h.1 y hy'
  refine ⟨y, hy', hy, p1, fun b hb => ?_⟩
  rw [p2, h.2 b hb, take_snoc l c hc 0, hy]
  rw [show decide ((b : Int) ∈ l.take c ++ [(y : Int)]) = (decide ((b : Int) ∈ l.take c) || decide (y = b)) by
    rw [← Bool.decide_or]
    apply decide_eq_decide.2
    rw [List.mem_append, List.mem_singleton]
    constructor
    · rintro (h | h)
      · exact Or.inl h
      · right; omega
    · rintro (h | h)
      · exact Or.inl h
      · right; omega]

theorem of_s {R : Type} (kf : Nat) (l : List Int) (hl : isB l) (hs : l.length < 1000) (hkf : 2000 ≤ kf) (K : List Int → Option R) : byteset_Of kf l K = K (setOf fun b => decide ((b : Int) ∈ l)) := by
  unfold byteset_Of byteset_Of_b
  refine loop_inv (fun k c acc => byteset_Of_l3 kf k l (l.length : Int) (List.replicate 4 (0 : Int)) (fun v7 v8 => K v8) (c : Int) acc) _ l.length 0
    (fun c acc => isSet acc ∧ ∀ b, b < 256 → mem acc b = decide ((b : Int) ∈ l.take c)) ?_ ?_ l.length kf 0 (List.replicate 4 (0 : Int)) (by omega) (by omega) ⟨zero_isSet, fun b hb => by rw [mem_zero]; simp⟩
  · rintro k acc ⟨h1, h2⟩
    have hd : decide ((l.length : Int) < (l.length : Int)) = false := decide_eq_false (by omega)
    simp only [byteset_Of_l3, byteset_Of_l3_b, hd, cond_false]
    rw [take_all] at h2
    rw [eq_setOf h1 h2]
  · intro k c acc _ hc h
    left
    obtain ⟨y, hy, he, h2⟩ := of_step hl hc h
    refine ⟨_, h2, ?_⟩
    have hd : decide ((c : Int) < (l.length : Int)) = true := decide_eq_true (by omega)
    simp only [byteset_Of_l3, byteset_Of_l3_b, hd, cond_true, Int.toNat_natCast, he, idx64 y hy, mod64]
    rw [gd_true (decide_eq_true (by omega)), gd_true rfl, gd_true (decide_eq_true (by omega)), gd_true (decide_eq_true (by omega)), gd_true (decide_eq_true (by omega)), gd_true (decide_eq_true (by omega)), gd_true (decide_eq_true (by omega)), wrap_i1 c (by omega)]

/-- of a table -/
theorem listOf_isB (p : Nat → Bool) : isB (listOf p) := by
  intro x hx
  unfold listOf at hx
  rw [List.mem_map] at hx
  obtain ⟨b, hb, rfl⟩ := hx
  rw [List.mem_filter, List.mem_range] at hb
  omega
theorem listOf_length (p : Nat → Bool) : (listOf p).length ≤ 256 := by
  unfold listOf
  rw [List.length_map]
  have := List.length_filter_le p (List.range 256)
  simpa using this
theorem mem_listOf (p : Nat → Bool) (b : Nat) : (b : Int) ∈ listOf p ↔ b < 256 ∧ p b = true := by
  unfold listOf
  rw [List.mem_map]
  constructor
  · rintro ⟨c, hc, he⟩
    rw [List.mem_filter, List.mem_range] at hc
    have : c = b := by omega
    subst this; exact hc
  · rintro h
    exact ⟨b, by rw [List.mem_filter, List.mem_range]; exact h, rfl⟩
theorem setOf_listOf (p : Nat → Bool) : (setOf fun b => decide ((b : Int) ∈ listOf p)) = setOf p := by
  apply setOf_congr
  intro b hb
  rw [← Bool.coe_iff_coe, decide_eq_true_iff, mem_listOf]
  simp [hb]

def listTo (p : Nat → Bool) (c : Nat) : List Int := ((List.range c).filter p).map fun b : Nat => (b : Int)
theorem listTo_succ (p : Nat → Bool) (c : Nat) : listTo p (c + 1) = listTo p c ++ (if p c then [(c : Int)] else []) := by
  unfold listTo
  rw [List.range_succ, List.filter_append, List.map_append]
  congr 1
  simp only [List.filter_cons, List.filter_nil]
  split <;> rfl
theorem listTo_length (p : Nat → Bool) (c : Nat) : (listTo p c).length ≤ c := by
  unfold listTo
  rw [List.length_map]
  have := List.length_filter_le p (List.range c)
  simpa using this

theorem tab_set {acc : List Bool} {c : Nat} {p : Nat → Bool} (h1 : acc.length = 256) (h2 : ∀ b, b < 256 → acc.getD b false = (decide (b < c) && p b)) :
    (acc.set c (p c)).length = 256 ∧ ∀ b, b < 256 → (acc.set c (p c)).getD b false = (decide (b < c + 1) && p b) := by
  refine ⟨by rw [List.length_set]; exact h1, fun b hb => ?_⟩
  rw [List.getD_eq_getElem?_getD, List.getElem?_set]
  by_cases hcb : c = b
  · subst hcb
    rw [if_pos rfl, if_pos (by omega), decide_eq_true (by omega)]
    rfl
  · rw [if_neg hcb, ← List.getD_eq_getElem?_getD, h2 b hb]
    congr 1
    apply decide_eq_decide.2
    omega
theorem tab_zero (p : Nat → Bool) : (List.replicate 256 false).length = 256 ∧ ∀ b, b < 256 → (List.replicate 256 false).getD b false = (decide (b < 0) && p b) :=
  ⟨List.length_replicate, fun b hb => by rw [List.getD_eq_getElem?_getD, List.getElem?_replicate, if_pos hb]; rfl⟩

end Go.Ab.T

/- The parts of all bytes: each byte's class, in the order of their first bytes. -/
namespace Go.Ab.T
open Go Go.Ab
set_option linter.unusedVariables false
set_option linter.unusedSimpArgs false

/-- two bytes that are in the same ones -/
def eqv (l : List (List Int)) (b c : Nat) : Bool := l.all fun s => mem s b == mem s c
theorem eqv_iff {l : List (List Int)} {b c : Nat} : eqv l b c = true ↔ ∀ s ∈ l, mem s b = mem s c := by
  unfold eqv
  rw [List.all_eq_true]
  simp
theorem eqv_refl (l : List (List Int)) (b : Nat) : eqv l b b = true := eqv_iff.2 fun _ _ => rfl
theorem eqv_symm {l : List (List Int)} {b c : Nat} (h : eqv l b c = true) : eqv l c b = true := eqv_iff.2 fun s hs => (eqv_iff.1 h s hs).symm
theorem eqv_trans {l : List (List Int)} {b c d : Nat} (h : eqv l b c = true) (h2 : eqv l c d = true) : eqv l b d = true := eqv_iff.2 fun s hs => (eqv_iff.1 h s hs).trans (eqv_iff.1 h2 s hs)
theorem eqv_comm (l : List (List Int)) (b c : Nat) : eqv l b c = eqv l c b := by
  rw [← Bool.coe_iff_coe]; exact ⟨eqv_symm, eqv_symm⟩
theorem eqv_congr {l : List (List Int)} {b c : Nat} (h : eqv l b c = true) (d : Nat) : eqv l b d = eqv l c d := by
  rw [← Bool.coe_iff_coe]; exact ⟨fun q => eqv_trans (eqv_symm h) q, fun q => eqv_trans h q⟩
theorem eqv_snoc (l : List (List Int)) (s : List Int) (b c : Nat) : eqv (l ++ [s]) b c = (eqv l b c && (mem s b == mem s c)) := by
  unfold eqv
  rw [List.all_append]
  simp

noncomputable def cls (l : List (List Int)) (b : Nat) : List Int := setOf (eqv l b)
/-- no earlier byte is in the same ones -/
def fst (l : List (List Int)) (b : Nat) : Bool := (List.range b).all fun c => !eqv l c b
noncomputable def partsS (l : List (List Int)) : List (List Int) := ((List.range 256).filter (fst l)).map (cls l)

theorem fst_iff {l : List (List Int)} {b : Nat} : fst l b = true ↔ ∀ c, c < b → eqv l c b = false := by
  unfold fst
  rw [List.all_eq_true]
  simp [List.mem_range]

/-- what the parts so far are: each byte is in just one, its class -/
def good (l : List (List Int)) (ps : List (List Int)) : Prop := (∀ p ∈ ps, isSet p) ∧ ∀ b, b < 256 → ps.filter (fun p => mem p b) = [cls l b]

noncomputable def split (s p : List Int) : List (List Int) :=
  (if andS p s = List.replicate 4 (0 : Int) then [] else [andS p s]) ++ (if andS p (notS s) = List.replicate 4 (0 : Int) then [] else [andS p (notS s)])

theorem split_isSet {s p : List Int} (hs : isSet s) (hp : isSet p) : ∀ x ∈ split s p, isSet x := by
  intro x hx
  unfold split at hx
  rcases List.mem_append.1 hx with h | h
  · split at h
    · cases h
    · rw [List.mem_singleton] at h; subst h; exact and_isSet hp hs
  · split at h
    · cases h
    · rw [List.mem_singleton] at h; subst h; exact and_isSet hp (not_isSet hs)
theorem split_length (s p : List Int) : (split s p).length ≤ 2 := by
  unfold split
  rw [List.length_append]
  split <;> split <;> simp

theorem zero_mem {x : List Int} (h : x = List.replicate 4 (0 : Int)) (b : Nat) : mem x b = false := by rw [h, mem_zero]

theorem split_filter {s p : List Int} (hs : isSet s) (hp : isSet p) (b : Nat) (hb : b < 256) :
    (split s p).filter (fun x => mem x b) = if mem p b then [if mem s b then andS p s else andS p (notS s)] else [] := by
  have m1 := mem_and hp hs b hb
  have m2 := mem_and hp (not_isSet hs) b hb
  rw [mem_not hs b hb] at m2
  have f1 : (if andS p s = List.replicate 4 (0 : Int) then [] else [andS p s]).filter (fun x => mem x b) = if mem p b && mem s b then [andS p s] else [] := by
    split
    · rename_i h
      rw [zero_mem h] at m1
      rw [← m1]
      simp
    · rw [List.filter_cons, m1]
      simp
  have f2 : (if andS p (notS s) = List.replicate 4 (0 : Int) then [] else [andS p (notS s)]).filter (fun x => mem x b) = if mem p b && !mem s b then [andS p (notS s)] else [] := by
    split
    · rename_i h
      rw [zero_mem h] at m2
      rw [← m2]
      simp
    · rw [List.filter_cons, m2]
      simp
  unfold split
  rw [List.filter_append, f1, f2]
  cases mem p b <;> cases mem s b <;> simp

theorem filter_flatMap' {α β : Type} (l : List α) (f : α → List β) (p : β → Bool) : (l.flatMap f).filter p = l.flatMap fun a => (f a).filter p := by
  induction l with
  | nil => rfl
  | cons a r ih => rw [List.flatMap_cons, List.flatMap_cons, List.filter_append, ih]

theorem flatMap_if {α β : Type} (l : List α) (p : α → Bool) (g : α → β) : (l.flatMap fun a => if p a then [g a] else []) = (l.filter p).map g := by
  induction l with
  | nil => rfl
  | cons a r ih =>
    rw [List.flatMap_cons, ih, List.filter_cons]
    split <;> simp

theorem good_step {l ps : List (List Int)} {s : List Int} (hs : isSet s) (h : good l ps) : good (l ++ [s]) (ps.flatMap (split s)) := by
  obtain ⟨h1, h2⟩ := h
  refine ⟨?_, fun b hb => ?_⟩
  · intro x hx
    rw [List.mem_flatMap] at hx
    obtain ⟨p, hp, hx⟩ := hx
    exact split_isSet hs (h1 p hp) x hx
  · rw [filter_flatMap']
    have e : (ps.flatMap fun a => (split s a).filter fun x => mem x b) = ps.flatMap fun a => if mem a b then [if mem s b then andS a s else andS a (notS s)] else [] := by
      unfold List.flatMap
      congr 1
      apply List.map_congr_left
      intro a ha
      exact split_filter hs (h1 a ha) b hb
    rw [e, flatMap_if, h2 b hb, List.map_cons, List.map_nil]
    congr 1
    have hc : isSet (cls l b) := setOf_isSet _
    cases hm : mem s b with
    | true =>
      simp only [if_true]
      refine (eq_setOf (p := eqv (l ++ [s]) b) (and_isSet hc hs) fun c hcc => ?_)
      rw [mem_and hc hs c hcc, eqv_snoc, hm]
      unfold cls
      rw [mem_setOf _ c hcc]
      cases mem s c <;> rfl
    | false =>
      simp only [Bool.false_eq_true, if_false]
      refine (eq_setOf (p := eqv (l ++ [s]) b) (and_isSet hc (not_isSet hs)) fun c hcc => ?_)
      rw [mem_and hc (not_isSet hs) c hcc, mem_not hs c hcc, eqv_snoc, hm]
      unfold cls
      rw [mem_setOf _ c hcc]
      cases mem s c <;> rfl

theorem good_nil : good [] [setOf fun _ => true] := by
  refine ⟨fun p hp => by rw [List.mem_singleton] at hp; subst hp; exact setOf_isSet _, fun b hb => ?_⟩
  rw [List.filter_cons, mem_setOf _ b hb]
  simp only [if_true, List.filter_nil]
  rfl

/-! ### the loops -/
theorem l10_ok {R : Type} (kf k : Nat) (v18 : List (List Int)) (v19 v20 v21 v22 : Int) (v25 : List Int) (v27 : List (List Int)) (x y : List Int) (Ke : (List (List Int)) → Int → Int → Int → Int → (List Int) → (List (List Int)) → (List (List Int)) → Option R) (acc : List (List Int)) (ha : acc.length < 1000000000) :
    byteset_Parts_l10 kf (k + 3) v18 v19 v20 v21 v22 2 v25 v27 [x, y] Ke 0 acc = Ke v18 v19 v20 v21 v22 v25 (acc ++ ((if x = List.replicate 4 (0 : Int) then [] else [x]) ++ (if y = List.replicate 4 (0 : Int) then [] else [y]))) v27 := by
  have d0 : decide ((0 : Int) < 2) = true := rfl
  have d1 : decide ((1 : Int) < 2) = true := rfl
  have d2 : decide ((2 : Int) < 2) = false := rfl
  have w0 : IntKind.i64.wrap (0 + 1) = 1 := by decide
  have w1 : IntKind.i64.wrap (1 + 1) = 2 := by decide
  have e0 : ([x, y] : List (List Int)).getD (Int.toNat 0) (List.replicate 4 (0 : Int)) = x := rfl
  have e1 : ([x, y] : List (List Int)).getD (Int.toNat 1) (List.replicate 4 (0 : Int)) = y := rfl
  have g0 : decide ((0 : Int) < (([x, y] : List (List Int)).length : Int)) = true := rfl
  have g1 : decide ((1 : Int) < (([x, y] : List (List Int)).length : Int)) = true := rfl
  have g2 : ∀ z : List Int, decide (acc.length + [z].length < SMALL) = true := fun z => decide_eq_true (by show _ < 17179869184; simp; omega)
  have g3 : ∀ z u : List Int, decide ((acc ++ [z]).length + [u].length < SMALL) = true := fun z u => decide_eq_true (by show _ < 17179869184; simp; omega)
  have z0 : decide ((0 : Int) ≤ 0) = true := rfl
  have z1 : decide ((0 : Int) ≤ 1) = true := rfl
  have key : ∀ z : List Int, (if z = List.replicate 4 (0 : Int) then [] else [z]) = bif decide (z = List.replicate 4 (0 : Int)) then [] else [z] := by
    intro z
    by_cases h : z = List.replicate 4 (0 : Int)
    · rw [if_pos h, decide_eq_true h]; rfl
    · rw [if_neg h, decide_eq_false h]; rfl
  rw [key x, key y]
  cases hx : decide (x = List.replicate 4 (0 : Int)) <;> cases hy : decide (y = List.replicate 4 (0 : Int)) <;>
    simp only [byteset_Parts_l10, byteset_Parts_l10_b, d0, d1, d2, w0, w1, e0, e1, g0, g1, gd, cond_true, cond_false, hx, hy, Bool.not_true, Bool.not_false, z0, z1, g2, g3, List.append_nil, List.nil_append, List.append_assoc]

theorem l7_ok {R : Type} (kf k0 : Nat) (hkf : 300 ≤ kf) (Ke : (List (List Int)) → Int → Int → (List (List Int)) → Option R) (v7 : List (List Int)) (v8 v9 : Int) (s : List Int) (hs : isSet s) (ps : List (List Int)) (hp : ∀ p ∈ ps, isSet p) (hl : ps.length < 100000000) (hk : ps.length + 4 < k0) :
    byteset_Parts_l7 kf k0 Ke v7 v8 v9 (ps.length : Int) 0 s [] ps = Ke v7 v8 v9 (ps.flatMap (split s)) := by
  refine loop_inv (fun k c acc => byteset_Parts_l7 kf k Ke v7 v8 v9 (ps.length : Int) (c : Int) s acc ps) _ ps.length 3
    (fun c acc => acc = (ps.take c).flatMap (split s) ∧ acc.length ≤ 2 * c) ?_ ?_ ps.length k0 0 [] (by omega) (by omega) ⟨by simp, by simp⟩
  · rintro k acc ⟨rfl, _⟩
    have hd : decide ((ps.length : Int) < (ps.length : Int)) = false := decide_eq_false (by omega)
    simp only [byteset_Parts_l7, byteset_Parts_l7_b, hd, cond_false, List.take_length]
  · rintro k c acc hB hc ⟨rfl, hlen⟩
    left
    have hd : decide ((c : Int) < (ps.length : Int)) = true := decide_eq_true (by omega)
    have g1 : decide (0 ≤ (c : Int)) = true := decide_eq_true (by omega)
    have hpc : isSet (ps.getD c (List.replicate 4 (0 : Int))) := hp _ (getD_mem ps c hc _)
    refine ⟨(ps.take c).flatMap (split s) ++ split s (ps.getD c (List.replicate 4 (0 : Int))), ⟨?_, ?_⟩, ?_⟩
    · rw [take_snoc ps c hc (List.replicate 4 (0 : Int)), List.flatMap_append]
      simp
    · rw [List.length_append]
      have := split_length s (ps.getD c (List.replicate 4 (0 : Int)))
      omega
    · obtain ⟨k', rfl⟩ : ∃ k', k = k' + 3 := ⟨k - 3, by omega⟩
      have hw := wrap_i1 c
      simp only [byteset_Parts_l7, byteset_Parts_l7_b, hd, g1, gd, cond_true, Int.toNat_natCast]
      rw [and_ok kf (by omega) hpc hs, not_ok kf (by omega) hs, and_ok kf (by omega) hpc (not_isSet hs)]
      have h10 := l10_ok kf k' v7 v8 v9 (ps.length : Int) (c : Int) s ps (andS (ps.getD c (List.replicate 4 (0 : Int))) s) (andS (ps.getD c (List.replicate 4 (0 : Int))) (notS s))
        (fun (v29 : (List (List Int))) (v30 : Int) (v31 : Int) (v32 : Int) (v33 : Int) (v34 : (List Int)) (v35 : (List (List Int))) (v36 : (List (List Int))) =>
           byteset_Parts_l7 kf (k' + 3) Ke v29 v30 v31 v32 (IntKind.i64.wrap (v33 + 1)) v34 v35 v36) ((ps.take c).flatMap (split s)) (by omega)
      have hw' : IntKind.i64.wrap ((c : Int) + 1) = ((c + 1 : Nat) : Int) := by rw [IntKind.wrap_i64]; omega
      simp only [hw'] at h10
      exact h10

theorem l3_ok {R : Type} (kf : Nat) (hkf : 10000000 ≤ kf) (Ke : (List (List Int)) → Option R) (l : List (List Int)) (hl : ∀ s ∈ l, isSet s) (hn : l.length ≤ 20) (T : Option R) (hT : ∀ ps, good l ps → ps.length ≤ 2 ^ 20 → Ke ps = T) :
    byteset_Parts_l3 kf kf Ke l (l.length : Int) 0 [setOf fun _ => true] = T := by
  refine loop_inv (fun k c acc => byteset_Parts_l3 kf k Ke l (l.length : Int) (c : Int) acc) _ l.length 2000000
    (fun c acc => good (l.take c) acc ∧ acc.length ≤ 2 ^ c) ?_ ?_ l.length kf 0 _ (by omega) (by omega) ⟨good_nil, by simp⟩
  · rintro k acc ⟨h1, h2⟩
    have hd : decide ((l.length : Int) < (l.length : Int)) = false := decide_eq_false (by omega)
    simp only [byteset_Parts_l3, byteset_Parts_l3_b, hd, cond_false]
    rw [List.take_length] at h1
    exact hT acc h1 (Nat.le_trans h2 (Nat.pow_le_pow_right (by omega) hn))
  · rintro k c acc hB hc ⟨h1, h2⟩
    left
    have hsc : isSet (l.getD c (List.replicate 4 (0 : Int))) := hl _ (getD_mem l c hc _)
    have hlen : acc.length ≤ 2 ^ 20 := Nat.le_trans h2 (Nat.pow_le_pow_right (by omega) (by omega))
    have e20 : (2 : Nat) ^ 20 = 1048576 := by decide
    rw [e20] at hlen
    refine ⟨acc.flatMap (split (l.getD c (List.replicate 4 (0 : Int)))), ⟨?_, ?_⟩, ?_⟩
    · rw [take_snoc l c hc (List.replicate 4 (0 : Int))]
      exact good_step hsc h1
    · have : ∀ a : List (List Int), (a.flatMap (split (l.getD c (List.replicate 4 (0 : Int))))).length ≤ 2 * a.length := by
        intro a
        induction a with
        | nil => simp
        | cons x r ih =>
          rw [List.flatMap_cons, List.length_append, List.length_cons]
          have := split_length (l.getD c (List.replicate 4 (0 : Int))) x
          omega
      have := this acc
      rw [Nat.pow_succ]; omega
    · have hd : decide ((c : Int) < (l.length : Int)) = true := decide_eq_true (by omega)
      have g1 : decide (0 ≤ (c : Int)) = true := decide_eq_true (by omega)
      have hw' : IntKind.i64.wrap ((c : Int) + 1) = ((c + 1 : Nat) : Int) := by rw [IntKind.wrap_i64]; omega
      simp only [byteset_Parts_l3, byteset_Parts_l3_b, hd, g1, gd, cond_true, Int.toNat_natCast]
      rw [l7_ok kf k (by omega) _ l (l.length : Int) (c : Int) _ hsc acc h1.1 (by omega) (by omega), hw']

/-- which bytes have been seen -/
def seenP (l : List (List Int)) (c x : Nat) : Bool := (List.range c).any fun b => eqv l b x

theorem filter_take_len {α : Type} (l : List α) (c : Nat) (p : α → Bool) : ((l.take c).filter p).length ≤ (l.filter p).length := by
  have : l.filter p = (l.take c).filter p ++ (l.drop c).filter p := by rw [← List.filter_append, List.take_append_drop]
  rw [this, List.length_append]; omega

theorem l25_ok {R : Type} (kf k0 : Nat) (hkf : 300 ≤ kf) (l : List (List Int)) (b : Nat) (hb : b < 256) (ps : List (List Int)) (hg : good l ps) (hlp : ps.length < 100000000) (hk : ps.length + 2 < k0) (Ke : Int → (List (List Int)) → (List (List Int)) → (List Int) → Option R) (out : List (List Int)) (q : Nat → Bool) (ho : out.length < 1000) :
    byteset_Parts_l25 kf k0 (b : Int) (b : Int) (ps.length : Int) ps Ke 0 out (setOf q) = Ke (b : Int) ps (out ++ [cls l b]) (setOf fun x => q x || eqv l b x) := by
  refine loop_inv (fun k c (acc : List (List Int) × List Int) => byteset_Parts_l25 kf k (b : Int) (b : Int) (ps.length : Int) ps Ke (c : Int) acc.1 acc.2) _ ps.length 0
    (fun c acc => acc.1 = out ++ (ps.take c).filter (fun p => mem p b) ∧ acc.2 = setOf fun x => q x || ((ps.take c).filter (fun p => mem p b)).any fun p => mem p x) ?_ ?_ ps.length k0 0 (out, setOf q) (by omega) (by omega) ⟨by simp, setOf_congr fun x _ => by simp⟩
  · rintro k ⟨a1, a2⟩ ⟨h1, h2⟩
    simp only at h1 h2
    have hd : decide ((ps.length : Int) < (ps.length : Int)) = false := decide_eq_false (by omega)
    simp only [byteset_Parts_l25, byteset_Parts_l25_b, hd, cond_false]
    rw [List.take_length, hg.2 b hb] at h1 h2
    rw [h1, h2]
    congr 1
    apply setOf_congr
    intro x hx
    unfold cls
    simp only [List.any_cons, List.any_nil, Bool.or_false, mem_setOf _ x hx]
  · rintro k c ⟨a1, a2⟩ _ hc ⟨h1, h2⟩
    simp only at h1 h2
    left
    have hd : decide ((c : Int) < (ps.length : Int)) = true := decide_eq_true (by omega)
    have g1 : decide (0 ≤ (c : Int)) = true := decide_eq_true (by omega)
    have hw' : IntKind.i64.wrap ((c : Int) + 1) = ((c + 1 : Nat) : Int) := by rw [IntKind.wrap_i64]; omega
    have hw8 : IntKind.u8.wrap (b : Int) = (b : Int) := by rw [IntKind.wrap_u8]; omega
    have hpc : isSet (ps.getD c (List.replicate 4 (0 : Int))) := hg.1 _ (getD_mem ps c hc _)
    have hlen : a1.length ≤ 1001 := by
      rw [h1, List.length_append]
      have := filter_take_len ps c (fun p => mem p b)
      rw [hg.2 b hb, List.length_singleton] at this
      omega
    generalize hx : ps.getD c (List.replicate 4 (0 : Int)) = x at hpc
    have hts := take_snoc ps c hc (List.replicate 4 (0 : Int))
    rw [hx] at hts
    cases hm : mem x b with
    | false =>
      refine ⟨(a1, a2), ⟨?_, ?_⟩, ?_⟩
      · simp only
        rw [h1, hts, List.filter_append, List.filter_cons, hm]
        simp
      · simp only
        rw [h2, hts, List.filter_append, List.filter_cons, hm]
        simp
      · simp only [byteset_Parts_l25, byteset_Parts_l25_b, hd, g1, gd, cond_true, Int.toNat_natCast, hw8, hx]
        rw [has_ok x hpc b hb, hm]
        simp only [cond_false, hw']
    | true =>
      refine ⟨(a1 ++ [x], setOf fun y => mem a2 y || mem x y), ⟨?_, ?_⟩, ?_⟩
      · simp only
        rw [h1, hts, List.filter_append, List.filter_cons, hm]
        simp
      · simp only
        rw [hts, List.filter_append, List.filter_cons, hm]
        apply setOf_congr
        intro y hy
        rw [h2, mem_setOf _ y hy]
        simp [Bool.or_assoc]
      · simp only [byteset_Parts_l25, byteset_Parts_l25_b, hd, g1, gd, cond_true, Int.toNat_natCast, hw8, hx]
        rw [has_ok x hpc b hb, hm]
        have g2 : decide (a1.length + [x].length < SMALL) = true := decide_eq_true (by show _ < 17179869184; simp; omega)
        have hor := or_s kf hkf (mem a2) (mem x) (fun v55 => byteset_Parts_l25 kf k (b : Int) (b : Int) (ps.length : Int) ps Ke (IntKind.i64.wrap ((c : Int) + 1)) (a1 ++ [x]) v55)
        have ha2 : isSet a2 := by rw [h2]; exact setOf_isSet _
        rw [setOf_mem ha2, setOf_mem hpc] at hor
        simp only [cond_true, g2]
        rw [hor, hw']

theorem partsTo_succ (l : List (List Int)) (c : Nat) : ((List.range (c + 1)).filter (fst l)).map (cls l) = ((List.range c).filter (fst l)).map (cls l) ++ (if fst l c then [cls l c] else []) := by
  rw [List.range_succ, List.filter_append, List.map_append]
  congr 1
  simp only [List.filter_cons, List.filter_nil]
  split <;> rfl
theorem seen_fst (l : List (List Int)) (c : Nat) : fst l c = !seenP l c c := by
  unfold fst seenP
  rw [List.not_any_eq_all_not]
theorem seenP_succ (l : List (List Int)) (c x : Nat) : seenP l (c + 1) x = (seenP l c x || eqv l c x) := by
  unfold seenP
  rw [List.range_succ, List.any_append]
  simp
theorem seenP_old {l : List (List Int)} {c : Nat} (h : seenP l c c = true) (x : Nat) : (seenP l c x || eqv l c x) = seenP l c x := by
  cases he : eqv l c x with
  | false => rw [Bool.or_false]
  | true =>
    unfold seenP at h ⊢
    rw [List.any_eq_true] at h
    obtain ⟨b, hb, h1⟩ := h
    rw [Bool.or_true]
    symm
    rw [List.any_eq_true]
    exact ⟨b, hb, eqv_trans h1 he⟩

theorem l21_ok {R : Type} (kf : Nat) (hkf : 10000000 ≤ kf) (l : List (List Int)) (ps : List (List Int)) (hg : good l ps) (hlp : ps.length ≤ 2 ^ 20) (Ke : (List (List Int)) → Option R) :
    byteset_Parts_l21 kf kf Ke 0 ps [] (setOf fun _ => false) = Ke (partsS l) := by
  have e20 : (2 : Nat) ^ 20 = 1048576 := by decide
  rw [e20] at hlp
  refine loop_inv (fun k c (acc : List (List Int) × List Int) => byteset_Parts_l21 kf k Ke (c : Int) ps acc.1 acc.2) _ 256 2000000
    (fun c acc => acc.1 = ((List.range c).filter (fst l)).map (cls l) ∧ acc.2 = setOf (seenP l c)) ?_ ?_ 256 kf 0 ([], setOf fun _ => false) (by omega) (by omega) ⟨rfl, setOf_congr fun x _ => rfl⟩
  · rintro k ⟨a1, a2⟩ ⟨h1, h2⟩
    simp only at h1 h2
    simp only [byteset_Parts_l21, byteset_Parts_l21_b, show decide (((256 : Nat) : Int) < 256) = false from rfl, cond_false]
    rw [h1]; rfl
  · rintro k c ⟨a1, a2⟩ hB hc ⟨h1, h2⟩
    simp only at h1 h2
    left
    have hd : decide ((c : Int) < 256) = true := decide_eq_true (by omega)
    have hw' : IntKind.i64.wrap ((c : Int) + 1) = ((c + 1 : Nat) : Int) := by rw [IntKind.wrap_i64]; omega
    have hw8 : IntKind.u8.wrap (c : Int) = (c : Int) := by rw [IntKind.wrap_u8]; omega
    have hlen : a1.length < 1000 := by
      rw [h1, List.length_map]
      have := List.length_filter_le (fst l) (List.range c)
      rw [List.length_range] at this
      omega
    cases hs : seenP l c c with
    | true =>
      refine ⟨(a1, a2), ⟨?_, ?_⟩, ?_⟩
      · simp only
        rw [h1, partsTo_succ, seen_fst, hs]; simp
      · simp only
        rw [h2]
        apply setOf_congr
        intro x _
        rw [seenP_succ, seenP_old hs]
      · simp only [byteset_Parts_l21, byteset_Parts_l21_b, hd, cond_true, hw8]
        rw [h2, has_s _ c hc, hs]
        simp only [cond_true, hw']
    | false =>
      refine ⟨(a1 ++ [cls l c], setOf fun x => seenP l c x || eqv l c x), ⟨?_, ?_⟩, ?_⟩
      · simp only
        rw [h1, partsTo_succ, seen_fst, hs]; simp
      · simp only
        apply setOf_congr
        intro x _
        rw [seenP_succ]
      · simp only [byteset_Parts_l21, byteset_Parts_l21_b, hd, cond_true, hw8]
        rw [h2, has_s _ c hc, hs]
        simp only [cond_false]
        rw [l25_ok kf k (by omega) l c hc ps hg (by omega) (by omega) _ a1 _ hlen, hw']

theorem parts_s {R : Type} (kf : Nat) (hkf : 10000000 ≤ kf) (l : List (List Int)) (hl : ∀ s ∈ l, isSet s) (hn : l.length ≤ 20) (K : List (List Int) → Option R) : byteset_Parts kf l K = K (partsS l) := by
  unfold byteset_Parts byteset_Parts_b
  rw [zero_setOf, not_s kf (by omega)]
  have e : (setOf fun b => !(fun _ : Nat => false) b) = setOf fun _ => true := setOf_congr fun _ _ => rfl
  rw [e]
  exact l3_ok kf hkf _ l hl hn _ fun ps hg hlp => l21_ok kf hkf l ps hg hlp _
end Go.Ab.T

/- The laws of sets: SetAll, SetRanges, SetFirst. -/
namespace Go.Ab.T
open Go Go.Ab
set_option linter.unusedVariables false
set_option linter.unusedSimpArgs false

theorem all_congr' {α : Type} {p q : α → Bool} : ∀ {l : List α}, (∀ x ∈ l, p x = q x) → l.all p = l.all q
  | [], _ => rfl
  | a :: r, h => by
    rw [List.all_cons, List.all_cons, h a (by simp), all_congr' fun x hx => h x (by simp [hx])]

def abc (b : Nat) : Bool := decide (97 ≤ b ∧ b ≤ 99)
theorem abc_list : listOf abc = [97, 98, 99] := by decide +kernel
theorem fst_one (p : Nat → Bool) (b : Nat) (hb : b < 256) : fst [setOf p] b = (List.range b).all fun c => !(p c == p b) := by
  unfold fst
  apply all_congr'
  intro c hc
  have := List.mem_range.1 hc
  unfold eqv
  rw [List.all_cons, List.all_nil, Bool.and_true, mem_setOf p c (by omega), mem_setOf p b hb]
theorem abc_parts : (partsS [setOf abc]).length = 2 := by
  unfold partsS
  rw [List.length_map]
  have e : (List.range 256).filter (fst [setOf abc]) = (List.range 256).filter fun b => (List.range b).all fun c => !(abc c == abc b) := by
    apply List.filter_congr
    intro b hb
    exact fst_one abc b (List.mem_range.1 hb)
  rw [e]
  decide +kernel

theorem abc_ahead : aheadP abc fun _ => false := ⟨97, by omega, rfl, rfl, fun c hc => by unfold abc; exact decide_eq_false (by omega)⟩
theorem abc_of : (setOf fun b => decide ((b : Int) ∈ ([97, 98, 99] : List Int))) = setOf abc := by
  rw [← abc_list]
  exact setOf_listOf abc

theorem begun_ok {R : Type} (kf : Nat) (hkf : 10000000 ≤ kf) (K : Bool → Option R) : law4_begun kf K = K true := by
  unfold law4_begun law4_begun_b
  obtain ⟨r, hr1, hr2⟩ := less_s kf (by omega) abc fun _ => false
  have hr : r = true := hr1.2 abc_ahead
  rw [← zero_setOf] at hr2
  have h1 : ∀ K, byteset_Range (R := R) kf 97 99 K = K (setOf abc) := fun K => range_s (R := R) kf (by omega) 97 99 (by omega) (by omega) K
  have h2 : ∀ K, byteset_Has (R := R) (setOf abc) 98 K = K true := fun K => has_s abc 98 (by omega) K
  have h3 : ∀ K, byteset_Has (R := R) (setOf abc) 100 K = K false := fun K => has_s abc 100 (by omega) K
  rw [h1, parts_s kf hkf [setOf abc] (fun s hs => by rw [List.mem_singleton] at hs; subst hs; exact setOf_isSet _) (by simp), h2]
  simp only [cond_true]
  rw [h3]
  simp only [Bool.not_false, cond_true]
  rw [len_s kf (by omega), abc_list]
  simp only [show decide ((([97, 98, 99] : List Int).length : Int) = 3) = true from rfl, cond_true]
  rw [list_s kf (by omega), abc_list]
  simp only [show decide ((([97, 98, 99] : List Int).length : Int) = 3) = true from rfl, cond_true, abc_parts, show decide (((2 : Nat) : Int) = 2) = true from rfl]
  rw [hr2, hr]
  simp only [cond_true]
  rw [gd_true (show decide (0 < ([97, 98, 99] : List Int).length) = true from rfl), of_s kf [97, 98, 99] (by intro x hx; simp at hx; omega) (by simp) (by omega), abc_of, decide_eq_true rfl]

end Go.Ab.T

/- The law SetLaws. -/
namespace Go.Ab.T
open Go Go.Ab
set_option linter.unusedVariables false
set_option linter.unusedSimpArgs false

theorem least_one {P : Nat → Prop} : ∀ n : Nat, P n → ∃ m, m ≤ n ∧ P m ∧ ∀ c, c < m → ¬ P c := by
  intro n
  induction n using Nat.strongRecOn with
  | _ n ih =>
    intro h
    by_cases h2 : ∃ c, c < n ∧ P c
    · obtain ⟨c, h3, h4⟩ := h2
      obtain ⟨m, q1, q2, q3⟩ := ih c h3 h4
      exact ⟨m, by omega, q2, q3⟩
    · exact ⟨n, Nat.le_refl _, h, fun c hc hp => h2 ⟨c, hc, hp⟩⟩

theorem ahead_asymm {p q : Nat → Bool} (h : aheadP p q) (h' : aheadP q p) : False := by
  obtain ⟨b, b1, b2, b3, b4⟩ := h
  obtain ⟨c, c1, c2, c3, c4⟩ := h'
  rcases Nat.lt_trichotomy b c with hlt | heq | hgt
  · have := c4 b hlt; rw [b2, b3] at this; cases this
  · subst heq; rw [b2] at c3; cases c3
  · have := b4 c hgt; rw [c2, c3] at this; cases this
theorem ahead_trans {p q s : Nat → Bool} (h : aheadP p q) (h' : aheadP q s) : aheadP p s := by
  obtain ⟨b, b1, b2, b3, b4⟩ := h
  obtain ⟨c, c1, c2, c3, c4⟩ := h'
  rcases Nat.lt_trichotomy b c with hlt | heq | hgt
  · exact ⟨b, b1, b2, by rw [← c4 b hlt, b3], fun x hx => by rw [b4 x hx, c4 x (by omega)]⟩
  · subst heq; rw [b3] at c2; cases c2
  · exact ⟨c, c1, by rw [b4 c hgt, c2], c3, fun x hx => by rw [b4 x (by omega), c4 x hx]⟩
theorem ahead_total {p q : Nat → Bool} (h1 : ¬ aheadP p q) (h2 : ¬ aheadP q p) : setOf p = setOf q := by
  refine setOf_congr fun b hb => ?_
  apply Classical.byContradiction
  intro hne
  obtain ⟨m, m1, m2, m3⟩ := least_one (P := fun b => p b ≠ q b) b hne
  have heq : ∀ c, c < m → p c = q c := fun c hc => Classical.not_not.1 (m3 c hc)
  cases hp : p m with
  | true => exact h1 ⟨m, by omega, hp, by cases hq : q m with | false => rfl | true => exact absurd (hp.trans hq.symm) m2, heq⟩
  | false => exact h2 ⟨m, by omega, by cases hq : q m with | true => rfl | false => exact absurd (hp.trans hq.symm) m2, hp, fun c hc => (heq c hc).symm⟩
theorem ahead_ne {p q : Nat → Bool} (h : aheadP p q) : setOf p ≠ setOf q := by
  intro he
  obtain ⟨b, b1, b2, b3, b4⟩ := h
  have := setOf_inj he b b1
  rw [b2, b3] at this; cases this

theorem count_or_and (p q : Nat → Bool) : ∀ l : List Nat, (l.filter fun b => p b || q b).length + (l.filter fun b => p b && q b).length = (l.filter p).length + (l.filter q).length
  | [] => rfl
  | a :: r => by
    have := count_or_and p q r
    simp only [List.filter_cons]
    cases p a <;> cases q a <;> simp <;> omega
theorem len_listOf (p : Nat → Bool) : (listOf p).length = ((List.range 256).filter p).length := by unfold listOf; rw [List.length_map]

section
variable {R : Type}

theorem sl3_ok (kf : Nat) (hkf : 2000 ≤ kf) (p : Nat → Bool) (v2 v3 : List Int) (K : Bool → Option R) : sl3 (byteset_List kf) (byteset_Of kf) (setOf p) v2 v3 true true true K = K true := by
  unfold sl3
  simp only [cond_true]
  rw [list_s kf (by omega)]
  have := listOf_length p
  rw [of_s kf _ (listOf_isB p) (by omega) hkf, setOf_listOf, decide_eq_true rfl]

theorem sl2_ok (kf : Nat) (hkf : 2000 ≤ kf) (p q s : Nat → Bool) (j : Bool → Option R) : sl2 (byteset_Less kf) (setOf p) (setOf q) (setOf s) j = j true := by
  unfold sl2
  obtain ⟨r1, a1, b1⟩ := less_s kf (by omega) p q
  obtain ⟨r2, a2, b2⟩ := less_s kf (by omega) q p
  obtain ⟨r3, a3, b3⟩ := less_s kf (by omega) q s
  obtain ⟨r4, a4, b4⟩ := less_s kf (by omega) p s
  rw [b1]
  cases r1 with
  | true =>
    have h1 := a1.1 rfl
    rw [Bool.not_true, cond_false, decide_eq_false (ahead_ne h1), decide_eq_true rfl, cond_true, b1]
    simp only [cond_true]
    rw [b3]
    cases r3 with
    | false => rfl
    | true =>
      have h4 : r4 = true := a4.2 (ahead_trans h1 (a3.1 rfl))
      subst h4
      simp only [cond_true]
      rw [b4]; rfl
  | false =>
    have h1 : ¬ aheadP p q := fun h => by have := a1.2 h; cases this
    rw [Bool.not_false, cond_true, b2]
    cases r2 with
    | true =>
      have h2 := a2.1 rfl
      have hne : ¬ setOf p = setOf q := fun h => ahead_ne h2 h.symm
      simp only [decide_eq_false hne, Bool.not_true, decide_true, cond_true]
      rw [b1]; rfl
    | false =>
      have h2 : ¬ aheadP q p := fun h => by have := a2.2 h; cases this
      have he := ahead_total h1 h2
      simp only [decide_eq_true he, Bool.not_false, decide_true, cond_true]
      rw [b1]; rfl

theorem sl1_ok (kf : Nat) (hkf : 2000 ≤ kf) (p q : Nat → Bool) (j : Bool → Option R) : sl1 (byteset_Or kf) (byteset_And kf) (byteset_Not kf) (byteset_Len kf) (setOf p) (setOf q) j = j true := by
  unfold sl1
  have e1 : (setOf fun b => !!p b) = setOf p := setOf_congr fun b _ => by rw [Bool.not_not]
  have e2 : (setOf fun b => !(p b || q b)) = setOf fun b => !p b && !q b := setOf_congr fun b _ => Bool.not_or _ _
  rw [not_s kf (by omega), not_s kf (by omega), decide_eq_true e1, cond_true, or_s kf (by omega), not_s kf (by omega), not_s kf (by omega), not_s kf (by omega), and_s kf (by omega), decide_eq_true e2, cond_true,
    or_s kf (by omega), len_s kf (by omega), and_s kf (by omega), len_s kf (by omega), len_s kf (by omega), len_s kf (by omega)]
  have := count_or_and p q (List.range 256)
  rw [decide_eq_true]
  rw [len_listOf, len_listOf, len_listOf, len_listOf]
  congr 1
  omega

theorem sl0_ok (kf : Nat) (hkf : 10000000 ≤ kf) (p q : Nat → Bool) (x : Nat) (hx : x < 256) (j K : Bool → Option R) : sl0 (law4_begun kf) byteset_Has (byteset_Or kf) (byteset_And kf) (byteset_Not kf) (setOf p) (setOf q) (x : Int) j K = j true := by
  unfold sl0
  rw [begun_ok kf hkf, Bool.not_true, cond_false, has_s p x hx, has_s q x hx, or_s kf (by omega), has_s _ x hx]
  have h1 : ∀ K, byteset_And (R := R) kf (setOf p) (setOf q) K = K (setOf fun b => p b && q b) := fun K => and_s kf (by omega) p q K
  have h2 : ∀ K, byteset_Has (R := R) (setOf fun b => p b && q b) (x : Int) K = K (p x && q x) := fun K => has_s _ x hx K
  have h3 : ∀ K, byteset_Not (R := R) kf (setOf p) K = K (setOf fun b => !p b) := fun K => not_s kf (by omega) p K
  have h4 : ∀ K, byteset_Has (R := R) (setOf fun b => !p b) (x : Int) K = K (!p x) := fun K => has_s _ x hx K
  cases hp : p x <;> cases hq : q x <;> simp [h1, h2, h3, h4, hp, hq]

theorem setLaws_ok (kf : Nat) (hkf : 10000000 ≤ kf) (a b c : List Int) (x : Int) (ha : isSet a) (hb : isSet b) (hc : isSet c) (hx : 0 ≤ x ∧ x ≤ 255) (K : Bool → Option R) : law4_SetLawsJ kf a b c x K = K true := by
  unfold law4_SetLawsJ
  obtain ⟨x, rfl⟩ := Int.eq_ofNat_of_zero_le hx.1
  rw [← setOf_mem ha, ← setOf_mem hb, ← setOf_mem hc, sl0_ok kf hkf _ _ x (by omega), sl1_ok kf (by omega), sl2_ok kf (by omega), sl3_ok kf (by omega)]
end
end Go.Ab.T
