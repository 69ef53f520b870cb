/- CanAM: a part of the proofs of this seat's statements. -/
import Derived.Test.YtnnojemckfikfaaMacAM
/- Machines in their own form: of each language just one. -/
namespace Go.Ab.T
open Go Go.Ab
set_option linter.unusedVariables false
set_option linter.unusedSimpArgs false

def isBy (w : List Nat) : Prop := ∀ b ∈ w, b < 256
def repB (C : List Int) (f : Nat) : Bool := (List.range f).all fun b => !decide (C.getD b 0 = C.getD f 0)
theorem repB_iff {C : List Int} {f : Nat} : repB C f = true ↔ isRep C f := by
  unfold repB isRep
  rw [List.all_eq_true]
  simp [List.mem_range]

theorem dls_append (C : List Int) (N : List (List Int)) : ∀ (v w : List Nat) (s : Nat), dls C N s (v ++ w) = dls C N (dls C N s v) w
  | [], w, s => rfl
  | b :: v, w, s => dls_append C N v w (dl C N s b)

/-- alike in all words -/
def eqs (C : List Int) (N : List (List Int)) (E : List Bool) (s t : Nat) : Prop := ∀ v, isBy v → en E (dls C N s v) = en E (dls C N t v)
theorem eqs_step {C : List Int} {N : List (List Int)} {E : List Bool} {s t : Nat} (h : eqs C N E s t) {b : Nat} (hb : b < 256) : eqs C N E (dl C N s b) (dl C N t b) := fun v hv => h (b :: v) (by
  intro x hx
  rcases List.mem_cons.1 hx with rfl | hx
  · exact hb
  · exact hv x hx)

structure Canon (C : List Int) (N : List (List Int)) (E : List Bool) (n m : Nat) : Prop where
  mch : Mch C N E n m
  ord : ∃ wd : Nat → List Nat, (∀ j, j < n → isBy (wd j) ∧ dls C N 0 (wd j) = j ∧ ∀ v, isBy v → dls C N 0 v = j → code (wd j) ≤ code v) ∧ ∀ i j, i < j → j < n → code (wd i) < code (wd j)
  dist : ∀ i j, i < n → j < n → eqs C N E i j → i = j
  cls : ∀ b b', b < 256 → b' < 256 → (∀ i, i < n → dl C N i b = dl C N i b') → C.getD b 0 = C.getD b' 0
  num : ∀ b, b < 256 → isRep C b → C.getD b 0 = (((List.range b).countP (repB C) : Nat) : Int)

theorem mono_le {f : Nat → Nat} {n : Nat} (hf : ∀ i j, i < j → j < n → f i < f j) : ∀ i, i < n → i ≤ f i
  | 0, _ => Nat.zero_le _
  | i + 1, h => by
    have := mono_le hf i (by omega)
    have := hf i (i + 1) (by omega) h
    omega
theorem mono_up {f : Nat → Nat} {n : Nat} (hf : ∀ i j, i < j → j < n → f i < f j) (hb : ∀ i, i < n → f i < n) : ∀ d i, i + d + 1 = n → f i ≤ i
  | 0, i, h => by have := hb i (by omega); omega
  | d + 1, i, h => by
    have := mono_up hf hb d (i + 1) (by omega)
    have := hf i (i + 1) (by omega) (by omega)
    omega

section
variable {C C' : List Int} {N N' : List (List Int)} {E E' : List Bool} {n n' m m' : Nat}

/-- two of the same words -/
def Lang (C : List Int) (N : List (List Int)) (E : List Bool) (C' : List Int) (N' : List (List Int)) (E' : List Bool) : Prop := ∀ v, isBy v → en E (dls C N 0 v) = en E' (dls C' N' 0 v)
theorem Lang.symm (h : Lang C N E C' N' E') : Lang C' N' E' C N E := fun v hv => (h v hv).symm

theorem Canon.same_state (h : Canon C N E n m) (h' : Canon C' N' E' n' m') (hL : Lang C N E C' N' E') {v u : List Nat} (hv : isBy v) (hu : isBy u) (he : dls C N 0 v = dls C N 0 u) : dls C' N' 0 v = dls C' N' 0 u := by
  refine h'.dist _ _ (h'.mch.dls_lt h'.mch.k1 hv) (h'.mch.dls_lt h'.mch.k1 hu) fun w hw => ?_
  rw [← dls_append, ← dls_append, ← hL _ (fun x hx => by
    rcases List.mem_append.1 hx with hx | hx
    · exact hv x hx
    · exact hw x hx), ← hL _ (fun x hx => by
    rcases List.mem_append.1 hx with hx | hx
    · exact hu x hx
    · exact hw x hx), dls_append, dls_append, he]

theorem Canon.half (h : Canon C N E n m) (h' : Canon C' N' E' n' m') (hL : Lang C N E C' N' E') :
    ∃ f : Nat → Nat, (∀ i, i < n → f i < n') ∧ (∀ i j, i < j → j < n → f i < f j) ∧ ∀ v, isBy v → f (dls C N 0 v) = dls C' N' 0 v := by
  obtain ⟨wd, w1, w2⟩ := h.ord
  obtain ⟨wd', w1', w2'⟩ := h'.ord
  refine ⟨fun i => dls C' N' 0 (wd i), fun i hi => h'.mch.dls_lt h'.mch.k1 (w1 i hi).1, fun i j hij hj => ?_, fun v hv => ?_⟩
  · -- the least word of a state is the least one of its like
    have key : ∀ i, i < n → code (wd i) = code (wd' (dls C' N' 0 (wd i))) := by
      intro i hi
      obtain ⟨a1, a2, a3⟩ := w1 i hi
      have hlt := h'.mch.dls_lt h'.mch.k1 a1
      obtain ⟨b1, b2, b3⟩ := w1' _ hlt
      have c1 := b3 (wd i) a1 rfl
      have c2 := a3 (wd' (dls C' N' 0 (wd i))) b1 (by
        have := h'.same_state h hL.symm b1 a1 b2
        rw [this, a2])
      omega
    have hi : i < n := by omega
    have h1 := w2 i j hij hj
    rw [key i hi, key j hj] at h1
    apply Classical.byContradiction
    intro hn
    have hn : ¬ dls C' N' 0 (wd i) < dls C' N' 0 (wd j) := hn
    have hlti := h'.mch.dls_lt h'.mch.k1 (w1 i hi).1
    rcases Nat.lt_or_ge (dls C' N' 0 (wd j)) (dls C' N' 0 (wd i)) with hlt | hge
    · have := w2' _ _ hlt hlti
      omega
    · have : dls C' N' 0 (wd i) = dls C' N' 0 (wd j) := by omega
      rw [this] at h1; omega
  · have hlt := h.mch.dls_lt h.mch.k1 hv
    obtain ⟨a1, a2, a3⟩ := w1 _ hlt
    exact h.same_state h' hL a1 hv a2

theorem Canon.unique (h : Canon C N E n m) (h' : Canon C' N' E' n' m') (hL : Lang C N E C' N' E') : C = C' ∧ N = N' ∧ E = E' := by
  obtain ⟨f, f1, f2, f3⟩ := h.half h' hL
  obtain ⟨g, g1, g2, g3⟩ := h'.half h hL.symm
  have hn : n = n' := by
    have := h.mch.k1; have := h'.mch.k1
    have a1 := mono_le f2 (n - 1) (by omega)
    have a2 := f1 (n - 1) (by omega)
    have b1 := mono_le g2 (n' - 1) (by omega)
    have b2 := g1 (n' - 1) (by omega)
    omega
  subst hn
  have hid : ∀ i, i < n → f i = i := fun i hi => by
    have := mono_le f2 i hi
    have := mono_up f2 f1 (n - 1 - i) i (by omega)
    omega
  have hd : ∀ v, isBy v → dls C N 0 v = dls C' N' 0 v := fun v hv => by
    rw [← f3 v hv, hid _ (h.mch.dls_lt h.mch.k1 hv)]
  obtain ⟨wd, w1, w2⟩ := h.ord
  have hdl : ∀ i, i < n → ∀ b, b < 256 → dl C N i b = dl C' N' i b := by
    intro i hi b hb
    obtain ⟨a1, a2, _⟩ := w1 i hi
    have hv : isBy (wd i ++ [b]) := by
      intro x hx
      rcases List.mem_append.1 hx with hx | hx
      · exact a1 x hx
      · rw [List.mem_singleton] at hx; omega
    have := hd _ hv
    rw [dls_snoc, dls_snoc, ← hd _ a1, a2] at this
    exact this
  have hen : ∀ i, i < n → en E i = en E' i := by
    intro i hi
    obtain ⟨a1, a2, _⟩ := w1 i hi
    have := hL _ a1
    rwa [← hd _ a1, a2] at this
  have hceq : ∀ b b', b < 256 → b' < 256 → (C.getD b 0 = C.getD b' 0 ↔ C'.getD b 0 = C'.getD b' 0) := by
    intro b b' hb hb'
    constructor
    · intro he
      refine h'.cls b b' hb hb' fun i hi => ?_
      rw [← hdl i hi b hb, ← hdl i hi b' hb']
      unfold dl; rw [he]
    · intro he
      refine h.cls b b' hb hb' fun i hi => ?_
      rw [hdl i hi b hb, hdl i hi b' hb']
      unfold dl; rw [he]
  have hrep : ∀ b, b < 256 → repB C b = repB C' b := by
    intro b hb
    rw [Bool.eq_iff_iff, repB_iff, repB_iff]
    constructor
    · intro hr c hc he
      exact hr c hc ((hceq c b (by omega) hb).2 he)
    · intro hr c hc he
      exact hr c hc ((hceq c b (by omega) hb).1 he)
  have hC : ∀ b, b < 256 → C.getD b 0 = C'.getD b 0 := by
    intro b hb
    obtain ⟨f0, q1, q2, q3⟩ := rep_of C b
    have q2' : isRep C' f0 := repB_iff.1 (by rw [← hrep f0 (by omega)]; exact repB_iff.2 q2)
    have q3' := (hceq f0 b (by omega) hb).1 q3
    rw [← q3, ← q3', h.num f0 (by omega) q2, h'.num f0 (by omega) q2']
    congr 1
    apply List.countP_congr
    intro x hx
    rw [hrep x (by have := List.mem_range.1 hx; omega)]
  have eC : C = C' := by
    apply List.ext_getElem
    · rw [h.mch.cl, h'.mch.cl]
    · intro i h1 h2
      have hi : i < 256 := by have := h.mch.cl; omega
      have := hC i hi
      rwa [List.getD_eq_getElem?_getD, List.getD_eq_getElem?_getD, List.getElem?_eq_getElem h1, List.getElem?_eq_getElem h2] at this
  subst eC
  have hm : m = m' := by
    have := h.mch.m1; have := h'.mch.m1
    obtain ⟨b, hb, he⟩ := h.mch.inh (m - 1) (by omega)
    obtain ⟨a, ha, he2⟩ := h'.mch.clr b hb
    obtain ⟨b', hb', he'⟩ := h'.mch.inh (m' - 1) (by omega)
    obtain ⟨a', ha', he2'⟩ := h.mch.clr b' hb'
    omega
  subst hm
  refine ⟨rfl, ?_, ?_⟩
  · apply List.ext_getElem
    · rw [h.mch.nl, h'.mch.nl]
    · intro i h1 h2
      have hi : i < n := by rw [← h.mch.nl]; exact h1
      obtain ⟨r1, r2⟩ := h.mch.row i hi
      obtain ⟨r1', r2'⟩ := h'.mch.row i hi
      have e1 : N.getD i [] = N[i] := by rw [List.getD_eq_getElem?_getD, List.getElem?_eq_getElem h1]; rfl
      have e2 : N'.getD i [] = N'[i] := by rw [List.getD_eq_getElem?_getD, List.getElem?_eq_getElem h2]; rfl
      rw [← e1, ← e2]
      apply List.ext_getElem
      · rw [r1, r1']
      · intro a a1 a2
        have ha : a < m := by omega
        obtain ⟨b, hb, he⟩ := h.mch.inh a ha
        have := hdl i hi b hb
        unfold dl at this
        rw [he, Int.toNat_natCast] at this
        obtain ⟨t, t1, t2⟩ := r2 a ha
        obtain ⟨t', t1', t2'⟩ := r2' a ha
        rw [t2, t2', Int.toNat_natCast, Int.toNat_natCast] at this
        have q1 : (N.getD i [])[a] = (N.getD i []).getD a 0 := by rw [List.getD_eq_getElem?_getD (l := N.getD i []), List.getElem?_eq_getElem a1]; rfl
        have q2 : (N'.getD i [])[a] = (N'.getD i []).getD a 0 := by rw [List.getD_eq_getElem?_getD (l := N'.getD i []), List.getElem?_eq_getElem a2]; rfl
        rw [q1, q2, t2, t2', this]
  · apply List.ext_getElem
    · rw [h.mch.el, h'.mch.el]
    · intro i h1 h2
      have hi : i < n := by rw [← h.mch.el]; exact h1
      have := hen i hi
      unfold en at this
      rwa [List.getD_eq_getElem?_getD, List.getD_eq_getElem?_getD, List.getElem?_eq_getElem h1, List.getElem?_eq_getElem h2] at this
end
end Go.Ab.T

/- The same search, over any steps: states in the order of their least words. -/
namespace Go.Ab.T
open Go Go.Ab
set_option linter.unusedVariables false
set_option linter.unusedSimpArgs false

def run (δ : Nat → Nat → Nat) : Nat → List Nat → Nat
  | s, [] => s
  | s, b :: r => run δ (δ s b) r
theorem run_snoc (δ : Nat → Nat → Nat) (b : Nat) : ∀ (w : List Nat) (s : Nat), run δ s (w ++ [b]) = δ (run δ s w) b
  | [], s => rfl
  | a :: r, s => run_snoc δ b r (δ s a)

/-- the first of those that count as one -/
def isR (cl : Nat → Int) (f : Nat) : Prop := ∀ b, b < f → cl b ≠ cl f
theorem r_of (cl : Nat → Int) : ∀ b : Nat, ∃ f, f ≤ b ∧ isR cl f ∧ cl f = cl b := by
  intro b
  induction b using Nat.strongRecOn with
  | _ b ih =>
    by_cases h : isR cl b
    · exact ⟨b, Nat.le_refl _, h, rfl⟩
    · obtain ⟨c, hc⟩ := Classical.not_forall.1 h
      obtain ⟨h1, h2⟩ := Classical.not_imp.1 hc
      obtain ⟨f, q1, q2, q3⟩ := ih c h1
      exact ⟨f, by omega, q2, by rw [q3]; exact Classical.not_not.1 h2⟩

/-- steps that stay inside, and do not tell bytes of one class apart -/
structure Stp (δ : Nat → Nat → Nat) (G : Nat → Prop) (cl : Nat → Int) (k : Nat) : Prop where
  zero : 0 < k ∧ G 0
  lt : ∀ s b, s < k → G s → b < 256 → δ s b < k ∧ G (δ s b)
  cl : ∀ s b f, s < k → G s → f < 256 → b < 256 → cl f = cl b → δ s f = δ s b

structure Bg (δ : Nat → Nat → Nat) (G : Nat → Prop) (cl : Nat → Int) (k : Nat) (p B : Nat) (q : Q) : Prop where
  root : qs q 0 = 0 ∧ qw q 0 = [] ∧ 0 < q.length
  lt : ∀ x ∈ q, x.1 < k ∧ G x.1 ∧ isBy x.2 ∧ run δ 0 x.2 = x.1
  inj : ∀ i j, i < j → j < q.length → qs q i ≠ qs q j
  sorted : ∀ i j, i < j → j < q.length → code (qw q i) < code (qw q j)
  top : p < q.length → ∀ x ∈ q, code x.2 < 256 * code (qw q p) + B + 1
  done : ∀ i, i < p → ∀ b, b < 256 → ∃ x ∈ q, x.1 = δ (qs q i) b ∧ code x.2 ≤ 256 * code (qw q i) + b + 1
  part : p < q.length → ∀ b f, b < 256 → f ≤ b → isR cl f → f < B → cl f = cl b → ∃ x ∈ q, x.1 = δ (qs q p) b ∧ code x.2 ≤ 256 * code (qw q p) + b + 1
  ple : p ≤ q.length

section
variable {δ : Nat → Nat → Nat} {G : Nat → Prop} {cl : Nat → Int} {k p B : Nat} {q : Q}

theorem Bg.start (hS : Stp δ G cl k) : Bg δ G cl k 0 0 [(0, [])] := by
  refine ⟨⟨rfl, rfl, by simp⟩, ?_, ?_, ?_, ?_, ?_, ?_, ?_⟩
  · intro x hx
    rw [List.mem_singleton] at hx
    subst hx
    exact ⟨hS.zero.1, hS.zero.2, fun b hb => (nomatch hb), rfl⟩
  · intro i j hij hj; simp at hj; omega
  · intro i j hij hj; simp at hj; omega
  · intro _ x hx
    rw [List.mem_singleton] at hx
    subst hx
    have : qw [(0, [])] 0 = [] := rfl
    rw [this, code_nil]
    show code [] < _
    rw [code_nil]; omega
  · intro i hi; omega
  · intro _ b f _ _ _ hf; omega
  · simp

theorem Bg.skip (h : Bg δ G cl k p B q) (B' : Nat) (hB : B ≤ B') (hn : ∀ f, B ≤ f → f < B' → f < 256 → ¬ isR cl f) : Bg δ G cl k p B' q := by
  refine ⟨h.root, h.lt, h.inj, h.sorted, ?_, h.done, ?_, h.ple⟩
  · intro hp x hx
    have := h.top hp x hx
    omega
  · intro hp b f hb hfb hf hfB hc
    by_cases hlt : f < B
    · exact h.part hp b f hb hfb hf hlt hc
    · exact absurd hf (hn f (by omega) hfB (by omega))

theorem Bg.old (hS : Stp δ G cl k) (h : Bg δ G cl k p B q) (hp : p < q.length) (hB : B < 256) (hr : isR cl B) (hm : ∃ x ∈ q, x.1 = δ (qs q p) B) : Bg δ G cl k p (B + 1) q := by
  obtain ⟨p1, p2, p3, p4⟩ := h.lt _ (q_mem hp)
  refine ⟨h.root, h.lt, h.inj, h.sorted, ?_, h.done, ?_, h.ple⟩
  · intro hp x hx
    have := h.top hp x hx
    omega
  · intro hp b f hb hfb hf hfB hc
    by_cases hlt : f < B
    · exact h.part hp b f hb hfb hf hlt hc
    · have : f = B := by omega
      subst this
      obtain ⟨x, hx, he⟩ := hm
      refine ⟨x, hx, by rw [he, hS.cl _ b f p1 p2 hB hb hc], ?_⟩
      have := h.top hp x hx
      omega

theorem Bg.new (hS : Stp δ G cl k) (h : Bg δ G cl k p B q) (hp : p < q.length) (hB : B < 256) (hr : isR cl B) (hm : ∀ x ∈ q, x.1 ≠ δ (qs q p) B) : Bg δ G cl k p (B + 1) (q ++ [(δ (qs q p) B, qw q p ++ [B])]) := by
  obtain ⟨p1, p2, p3, p4⟩ := h.lt _ (q_mem hp)
  have hlen : (q ++ [(δ (qs q p) B, qw q p ++ [B])]).length = q.length + 1 := by simp
  refine ⟨?_, ?_, ?_, ?_, ?_, ?_, ?_, ?_⟩
  · obtain ⟨r1, r2, r3⟩ := h.root
    exact ⟨by rw [qs_old r3]; exact r1, by rw [qw_old r3]; exact r2, by omega⟩
  · intro x hx
    rcases List.mem_append.1 hx with hx | hx
    · exact h.lt x hx
    · rw [List.mem_singleton] at hx
      subst hx
      obtain ⟨d1, d2⟩ := hS.lt _ B p1 p2 hB
      refine ⟨d1, d2, ?_, ?_⟩
      · intro b hb
        rcases List.mem_append.1 hb with hb | hb
        · exact p3 b hb
        · rw [List.mem_singleton] at hb; omega
      · rw [run_snoc]
        show δ (run δ 0 (qw q p)) B = _
        rw [show run δ 0 (qw q p) = qs q p from p4]
  · intro i j hij hj
    rw [hlen] at hj
    by_cases hjl : j < q.length
    · rw [qs_old hjl, qs_old (by omega)]; exact h.inj i j hij hjl
    · have : j = q.length := by omega
      subst this
      rw [qs_new, qs_old hij]
      exact hm _ (q_mem hij)
  · intro i j hij hj
    rw [hlen] at hj
    by_cases hjl : j < q.length
    · rw [qw_old hjl, qw_old (by omega)]; exact h.sorted i j hij hjl
    · have : j = q.length := by omega
      subst this
      rw [qw_new, qw_old hij, code_snoc]
      have := h.top hp _ (q_mem hij)
      exact this
  · intro _ x hx
    rw [qw_old hp]
    rcases List.mem_append.1 hx with hx | hx
    · have := h.top hp x hx; omega
    · rw [List.mem_singleton] at hx
      subst hx
      rw [code_snoc]; omega
  · intro i hi b hb
    obtain ⟨x, hx, h1, h2⟩ := h.done i hi b hb
    have hi' : i < q.length := by have := h.ple; omega
    rw [qs_old hi', qw_old hi']
    exact ⟨x, List.mem_append_left _ hx, h1, h2⟩
  · intro _ b f hb hfb hf hfB hc
    rw [qs_old hp, qw_old hp]
    by_cases hlt : f < B
    · obtain ⟨x, hx, h1, h2⟩ := h.part hp b f hb hfb hf hlt hc
      exact ⟨x, List.mem_append_left _ hx, h1, h2⟩
    · have : f = B := by omega
      subst this
      refine ⟨_, List.mem_append_right _ (List.mem_singleton.2 rfl), by rw [hS.cl _ b f p1 p2 hB hb hc], ?_⟩
      rw [code_snoc]; omega
  · have := h.ple; omega

theorem Bg.next (h : Bg δ G cl k p 256 q) (hp : p < q.length) : Bg δ G cl k (p + 1) 0 q := by
  refine ⟨h.root, h.lt, h.inj, h.sorted, ?_, ?_, ?_, by omega⟩
  · intro hp1 x hx
    have h1 := h.top hp x hx
    have h2 := h.sorted p (p + 1) (by omega) hp1
    omega
  · intro i hi b hb
    by_cases hip : i < p
    · exact h.done i hip b hb
    · have : i = p := by omega
      subst this
      obtain ⟨f, f1, f2, f3⟩ := r_of cl b
      exact h.part hp b f hb f1 f2 (by omega) f3
  · intro _ b f _ _ _ hf; omega

theorem Bg.size (h : Bg δ G cl k p B q) : q.length ≤ k := by
  have hn : (q.map (·.1)).Nodup := by
    unfold List.Nodup
    rw [List.pairwise_iff_getElem]
    intro i j hi hj hij
    rw [List.getElem_map, List.getElem_map]
    rw [List.length_map] at hi hj
    have := h.inj i j hij hj
    unfold qs at this
    rwa [List.getD_eq_getElem?_getD, List.getD_eq_getElem?_getD, List.getElem?_eq_getElem hi, List.getElem?_eq_getElem hj] at this
  have := nodup_len (q.map (·.1)) (List.range k) hn (fun x hx => by
    rw [List.mem_map] at hx
    obtain ⟨y, hy, rfl⟩ := hx
    exact List.mem_range.2 (h.lt y hy).1)
  rwa [List.length_map, List.length_range] at this

/-- when none is left: each word's state is there, by a word no greater -/
theorem Bg.all (h : Bg δ G cl k q.length 0 q) : ∀ (n : Nat) (v : List Nat), v.length = n → isBy v → ∃ i, i < q.length ∧ qs q i = run δ 0 v ∧ code (qw q i) ≤ code v
  | 0, v, hn, _ => by
    have : v = [] := List.length_eq_zero_iff.1 hn
    subst this
    obtain ⟨r1, r2, r3⟩ := h.root
    exact ⟨0, r3, r1, by rw [r2]; exact Nat.le_refl _⟩
  | n + 1, v, hn, hv => by
    rcases snoc_cases v with rfl | ⟨u, b, rfl⟩
    · simp at hn
    · have hb := hv b (by simp)
      rw [code_snoc, run_snoc]
      obtain ⟨i, h1, h2, h3⟩ := h.all n u (by simpa using hn) (fun x hx => hv x (by simp [hx]))
      obtain ⟨x, hx, x1, x2⟩ := h.done i h1 b hb
      obtain ⟨j, hj, rfl⟩ := q_of_mem hx
      exact ⟨j, hj, by rw [← h2]; exact x1, by simp only at x2; omega⟩

theorem Bg.inj_iff (h : Bg δ G cl k p B q) {i j : Nat} (hi : i < q.length) (hj : j < q.length) (he : qs q i = qs q j) : i = j := by
  rcases Nat.lt_trichotomy i j with hlt | heq | hgt
  · exact absurd he (h.inj i j hlt hj)
  · exact heq
  · exact absurd he.symm (h.inj j i hgt hi)
end
end Go.Ab.T

/- A machine's parts, put in order: its own form. -/
namespace Go.Ab.T
open Go Go.Ab
set_option linter.unusedVariables false
set_option linter.unusedSimpArgs false

/-- each state's part: who is alike is in one -/
structure Pts (C : List Int) (N : List (List Int)) (E : List Bool) (k : Nat) (p : Nat → Nat) (r : Nat → Nat) : Prop where
  iff : ∀ s t, s < k → t < k → (p s = p t ↔ eqs C N E s t)
  lt : ∀ s, s < k → p s < k
  zero : p 0 = 0
  rep : ∀ s, s < k → r (p s) < k ∧ p (r (p s)) = p s

def dq (C : List Int) (N : List (List Int)) (p r : Nat → Nat) (P b : Nat) : Nat := p (dl C N (r P) b)
def Gq (C : List Int) (N : List (List Int)) (p : Nat → Nat) (P : Nat) : Prop := ∃ v, isBy v ∧ p (dls C N 0 v) = P

section
variable {C : List Int} {N : List (List Int)} {E : List Bool} {k m : Nat} {p r : Nat → Nat}

theorem dq_p (h : Mch C N E k m) (hp : Pts C N E k p r) {s b : Nat} (hs : s < k) (hb : b < 256) : dq C N p r (p s) b = p (dl C N s b) := by
  obtain ⟨r1, r2⟩ := hp.rep s hs
  unfold dq
  exact (hp.iff _ _ (h.dl_lt r1 hb) (h.dl_lt hs hb)).2 (eqs_step ((hp.iff _ _ r1 hs).1 r2) hb)
theorem run_p (h : Mch C N E k m) (hp : Pts C N E k p r) : ∀ (v : List Nat) (s : Nat), s < k → isBy v → run (dq C N p r) (p s) v = p (dls C N s v)
  | [], s, hs, _ => rfl
  | b :: v, s, hs, hv => by
    have hb := hv b (by simp)
    simp only [run, dls]
    rw [dq_p h hp hs hb]
    exact run_p h hp v _ (h.dl_lt hs hb) fun x hx => hv x (by simp [hx])
theorem stp_q (h : Mch C N E k m) (hp : Pts C N E k p r) (cl : Nat → Int)
    (hcl : ∀ P b f, Gq C N p P → f < 256 → b < 256 → cl f = cl b → dq C N p r P f = dq C N p r P b) : Stp (dq C N p r) (Gq C N p) cl k := by
  refine ⟨⟨h.k1, [], fun b hb => (nomatch hb), hp.zero⟩, ?_, fun P b f _ hG hf hb hc => hcl P b f hG hf hb hc⟩
  rintro P b hP ⟨v, hv, rfl⟩ hb
  have hlt := h.dls_lt h.k1 hv
  rw [dq_p h hp hlt hb]
  refine ⟨hp.lt _ (h.dl_lt hlt hb), v ++ [b], ?_, by rw [dls_snoc]⟩
  intro x hx
  rcases List.mem_append.1 hx with hx | hx
  · exact hv x hx
  · rw [List.mem_singleton] at hx; omega

/-- an automaton that is laid out along the search -/
structure Laid (C : List Int) (N : List (List Int)) (E : List Bool) (p r : Nat → Nat) (q : Q) (C' : List Int) (N' : List (List Int)) (E' : List Bool) (m' : Nat) : Prop where
  cl : C'.length = 256
  clr : ∀ b, b < 256 → ∃ a : Nat, a < m' ∧ C'.getD b 0 = (a : Int)
  inh : ∀ a, a < m' → ∃ b, b < 256 ∧ C'.getD b 0 = (a : Int)
  m2 : m' ≤ 256
  same : ∀ b b', b < 256 → b' < 256 → (C'.getD b 0 = C'.getD b' 0 ↔ ∀ i, i < q.length → dq C N p r (qs q i) b = dq C N p r (qs q i) b')
  num : ∀ b, b < 256 → isRep C' b → C'.getD b 0 = (((List.range b).countP (repB C') : Nat) : Int)
  nl : N'.length = q.length
  row : ∀ i, i < q.length → (N'.getD i []).length = m' ∧ ∀ b, b < 256 → ∃ j : Nat, j < q.length ∧ (N'.getD i []).getD (C'.getD b 0).toNat 0 = (j : Int) ∧ qs q j = dq C N p r (qs q i) b
  el : E'.length = q.length
  ends : ∀ i, i < q.length → en E' i = en E (r (qs q i))

theorem laid_canon (h : Mch C N E k m) (hp : Pts C N E k p r) {cl : Nat → Int} {q : Q} (hq : Bg (dq C N p r) (Gq C N p) cl k q.length 0 q) {C' : List Int} {N' : List (List Int)} {E' : List Bool} {m' : Nat} (hl : Laid C N E p r q C' N' E' m') :
    Canon C' N' E' q.length m' ∧ Lang C N E C' N' E' := by
  have hk2 := h.k2
  obtain ⟨z1, z2, z3⟩ := hq.root
  have hsz := hq.size
  have hm1 : 1 ≤ m' := by obtain ⟨a, ha, _⟩ := hl.clr 0 (by omega); omega
  have hM : Mch C' N' E' q.length m' := by
    refine ⟨hl.cl, hl.clr, hl.inh, hl.nl, hl.el, z3, by omega, hm1, hl.m2, fun i hi => ?_⟩
    obtain ⟨r1, r2⟩ := hl.row i hi
    refine ⟨r1, fun a ha => ?_⟩
    obtain ⟨b, hb, he⟩ := hl.inh a ha
    obtain ⟨j, j1, j2, _⟩ := r2 b hb
    rw [he, Int.toNat_natCast] at j2
    exact ⟨j, j1, j2⟩
  have hstep : ∀ i, i < q.length → ∀ b, b < 256 → dl C' N' i b < q.length ∧ qs q (dl C' N' i b) = dq C N p r (qs q i) b := by
    intro i hi b hb
    obtain ⟨j, j1, j2, j3⟩ := (hl.row i hi).2 b hb
    have : dl C' N' i b = j := by unfold dl; rw [j2, Int.toNat_natCast]
    rw [this]; exact ⟨j1, j3⟩
  have hrun : ∀ (v : List Nat) (i : Nat), i < q.length → isBy v → dls C' N' i v < q.length ∧ qs q (dls C' N' i v) = run (dq C N p r) (qs q i) v := by
    intro v
    induction v with
    | nil => intro i hi _; exact ⟨hi, rfl⟩
    | cons b v ih =>
      intro i hi hv
      have hb := hv b (by simp)
      obtain ⟨s1, s2⟩ := hstep i hi b hb
      simp only [dls, run]
      rw [← s2]
      exact ih _ s1 fun x hx => hv x (by simp [hx])
  -- each found part is some state's
  have hpart : ∀ i, i < q.length → ∃ s, s < k ∧ p s = qs q i := by
    intro i hi
    obtain ⟨_, ⟨v, hv, he⟩, _, _⟩ := hq.lt _ (q_mem hi)
    exact ⟨_, h.dls_lt h.k1 hv, he⟩
  have hen : ∀ i, i < q.length → ∀ s, s < k → p s = qs q i → en E' i = en E s := by
    intro i hi s hs he
    rw [hl.ends i hi, ← he]
    obtain ⟨r1, r2⟩ := hp.rep s hs
    exact (hp.iff _ _ r1 hs).1 r2 [] fun b hb => (nomatch hb)
  have hlang : ∀ i, i < q.length → ∀ s, s < k → p s = qs q i → ∀ v, isBy v → en E' (dls C' N' i v) = en E (dls C N s v) := by
    intro i hi s hs he v hv
    obtain ⟨a1, a2⟩ := hrun v i hi hv
    refine hen _ a1 _ (h.dls_lt hs hv) ?_
    rw [a2, ← he, run_p h hp v s hs hv]
  refine ⟨⟨hM, ⟨fun j => qw q j, fun j hj => ?_, fun i j hij hj => hq.sorted i j hij hj⟩, fun i j hi hj he => ?_, fun b b' hb hb' he => ?_, hl.num⟩, fun v hv => ?_⟩
  · obtain ⟨_, _, b3, b4⟩ := hq.lt _ (q_mem hj)
    simp only at b3 b4
    refine ⟨b3, ?_, fun v hv hvj => ?_⟩
    · obtain ⟨a1, a2⟩ := hrun (qw q j) 0 z3 b3
      rw [z1, b4] at a2
      exact hq.inj_iff a1 hj a2
    · obtain ⟨i, i1, i2, i3⟩ := hq.all v.length v rfl hv
      obtain ⟨a1, a2⟩ := hrun v 0 z3 hv
      rw [z1, ← i2, hvj] at a2
      have : j = i := hq.inj_iff hj i1 a2
      subst this
      exact i3
  · obtain ⟨s, s1, s2⟩ := hpart i hi
    obtain ⟨t, t1, t2⟩ := hpart j hj
    refine hq.inj_iff hi hj ?_
    rw [← s2, ← t2, hp.iff s t s1 t1]
    intro v hv
    rw [← hlang i hi s s1 s2 v hv, ← hlang j hj t t1 t2 v hv]
    exact he v hv
  · refine (hl.same b b' hb hb').2 fun i hi => ?_
    rw [← (hstep i hi b hb).2, ← (hstep i hi b' hb').2, he i hi]
  · exact (hlang 0 z3 0 h.k1 (by rw [hp.zero, z1]) v hv).symm
end
end Go.Ab.T
