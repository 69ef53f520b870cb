/- WroG4: a part of the proofs of this seat's statements. -/
import Derived.Test.YtlhinijgdffcdaaGreatDoorWroG2
import Derived.Test.YtlhinijgdffcdaaGreatDoorWroG3
/- The reference's machine of sets of places: its small functions come to an end. -/
namespace Go.Ab.T
open Go Go.Ab
set_option linter.unusedVariables false
set_option linter.unusedSimpArgs false
def In (m : Nat) (l : List Int) : Prop := ∀ x ∈ l, 0 ≤ x ∧ x < (m : Int)
theorem In.at {m : Nat} {l : List Int} (h : In m l) {i : Nat} (hi : i < l.length) : ∃ n : Nat, n < m ∧ l.getD i 0 = (n : Int) := by
 obtain ⟨h1, h2⟩ := h _ (getD_mem l i hi 0)
 exact ⟨(l.getD i 0).toNat, by omega, by omega⟩
theorem In.mono {m m' : Nat} {l : List Int} (h : In m l) (hm : m ≤ m') : In m' l := fun x hx => by have := h x hx; omega
theorem In.app {m : Nat} {a b : List Int} (ha : In m a) (hb : In m b) : In m (a ++ b) := fun x hx => by
 rcases List.mem_append.1 hx with h | h
 ·exact ha x h
 ·exact hb x h
theorem In.nil {m : Nat} : In m [] := fun x hx => by cases hx
theorem wN (n : Nat) (h : n < 4000000000000000000) : IntKind.i64.wrap ((n : Int) + 1) = ((n + 1 : Nat) : Int) := by rw [IntKind.wrap_i64]; omega
theorem gdl {R : Type} {i n : Nat} (h : i < n) (x : Option R) : gd (decide (0 ≤ (i : Int))) (gd (decide ((i : Int) < (n : Int))) x) = x := by
 rw [decide_eq_true (by omega), decide_eq_true (by omega)]; rfl
theorem z0 (i : Nat) : decide (0 ≤ (i : Int)) = true := decide_eq_true (by omega)
theorem lt_t {i n : Nat} (h : i < n) : decide ((i : Int) < (n : Int)) = true := decide_eq_true (by omega)
theorem lt_f {i n : Nat} (h : n ≤ i) : decide ((i : Int) < (n : Int)) = false := decide_eq_false (by omega)
theorem sm {n : Nat} (h : n < 17179869184) : decide (n < SMALL) = true := decide_eq_true h
theorem gds {R : Type} {n : Nat} (h : n < 17179869184) (x : Option R) : gd (decide (n < SMALL)) x = x := by rw [sm h]; rfl
theorem has_tot (kf : Nat) (l : List Int) (x : Int) (hl : l.length ≤ 1000000) : ∀ (m kk i : Nat), i + m = l.length → m < kk →
  ∃ b : Bool, ∀ {R : Type} (Kr : Bool → Option R) (Ke : Option R), yy59_l2 kf kk l x Kr Ke (i : Int) = bif b then Kr true else Ke
 | m, 0, i, _, h => by omega
 | 0, kk + 1, i, hi, _ => ⟨false, fun Kr Ke => by rw [yy59_l2]; unfold yy59_l2_b; rw [lt_f (by omega)]; rfl⟩
 | m + 1, kk + 1, i, hi, hk => by
  have hil : i < l.length := by omega
  by_cases h : l.getD i 0 = x
  ·exact ⟨true, fun Kr Ke => by rw [yy59_l2]; unfold yy59_l2_b; rw [lt_t hil, cond_true, z0 i, gdt, gdt, Int.toNat_natCast, decide_eq_true h]; rfl⟩
  ·obtain ⟨b, hb⟩ := has_tot kf l x hl m kk (i + 1) (by omega) (by omega)
   exact ⟨b, fun Kr Ke => by rw [yy59_l2]; unfold yy59_l2_b; rw [lt_t hil, cond_true, z0 i, gdt, gdt, Int.toNat_natCast, decide_eq_false h, cond_false, wN i (by omega)]; exact hb Kr Ke⟩
theorem has_ok9 (kf : Nat) (l : List Int) (x : Int) (hl : l.length ≤ 1000000) (hk : l.length < kf) : ∃ b : Bool, ∀ {R : Type} (K : Bool → Option R), yy59 kf l x K = K b := by
 obtain ⟨b, hb⟩ := has_tot kf l x hl l.length kf 0 (by omega) hk
 refine ⟨b, fun K => ?_⟩
 unfold yy59 yy59_b
 refine (hb _ _).trans ?_
 cases b <;> rfl
theorem same_tot (kf : Nat) (l l' : List Int) (hll : l.length = l'.length) (hl : l.length ≤ 1000000) : ∀ (m kk i : Nat), i + m = l.length → m < kk →
  ∃ b : Bool, ∀ {R : Type} (Kr : Bool → Option R) (Ke : Option R), yy61_l4 kf kk l l' Kr Ke (i : Int) = bif b then Kr false else Ke
 | m, 0, i, _, h => by omega
 | 0, kk + 1, i, hi, _ => ⟨false, fun Kr Ke => by rw [yy61_l4]; unfold yy61_l4_b; rw [lt_f (by omega)]; rfl⟩
 | m + 1, kk + 1, i, hi, hk => by
  have hil : i < l.length := by omega
  have hil' : i < l'.length := by omega
  by_cases h : l.getD i 0 = l'.getD i 0
  ·obtain ⟨b, hb⟩ := same_tot kf l l' hll hl m kk (i + 1) (by omega) (by omega)
   exact ⟨b, fun Kr Ke => by rw [yy61_l4]; unfold yy61_l4_b; rw [lt_t hil, cond_true, z0 i, gdt, gdt, gdt, lt_t hil', gdt, Int.toNat_natCast, decide_eq_true h, Bool.not_true, cond_false, wN i (by omega)]; exact hb Kr Ke⟩
  ·exact ⟨true, fun Kr Ke => by rw [yy61_l4]; unfold yy61_l4_b; rw [lt_t hil, cond_true, z0 i, gdt, gdt, gdt, lt_t hil', gdt, Int.toNat_natCast, decide_eq_false h]; rfl⟩
theorem same_ok9 (kf : Nat) (l l' : List Int) (hl : l.length ≤ 1000000) (hk : l.length < kf) : ∃ b : Bool, ∀ {R : Type} (K : Bool → Option R), yy61 kf l l' K = K b := by
 by_cases hll : l.length = l'.length
 ·obtain ⟨b, hb⟩ := same_tot kf l l' hll hl l.length kf 0 (by omega) hk
  refine ⟨!b, fun K => ?_⟩
  unfold yy61 yy61_b
  rw [decide_eq_true (show (l.length : Int) = (l'.length : Int) by omega), Bool.not_true, cond_false]
  refine (hb _ _).trans ?_
  cases b <;> rfl
 ·exact ⟨false, fun K => by unfold yy61 yy61_b; rw [decide_eq_false (show ¬ (l.length : Int) = (l'.length : Int) by omega)]; rfl⟩
theorem find_tot (kf : Nat) (L : List (List Int)) (x : List Int) (hL : L.length ≤ 1000) (hx : ∀ i, i < L.length → (L.getD i []).length ≤ 1000) (hkf : 2000 ≤ kf) : ∀ (m kk i : Nat), i + m = L.length → m < kk →
  ∃ o : Option Nat, (∀ j, o = some j → j < L.length) ∧ ∀ {R : Type} (Kr : Int → Option R) (Ke : Option R), yy58_l2 kf kk L x Kr Ke (i : Int) = match o with | some j => Kr (j : Int) | none => Ke
 | m, 0, i, _, h => by omega
 | 0, kk + 1, i, hi, _ => ⟨none, (fun j h => by cases h), fun Kr Ke => by rw [yy58_l2]; unfold yy58_l2_b; rw [lt_f (by omega)]; rfl⟩
 | m + 1, kk + 1, i, hi, hk => by
  have hil : i < L.length := by omega
  have hxi := hx i hil
  obtain ⟨b, hb⟩ := same_ok9 kf (L.getD i []) x (by omega) (by omega)
  cases b with
  | true => exact ⟨some i, (fun j h => by cases h; exact hil), fun Kr Ke => by rw [yy58_l2]; unfold yy58_l2_b; rw [lt_t hil, cond_true, z0 i, gdt, gdt, Int.toNat_natCast, hb]; rfl⟩
  | false =>
   obtain ⟨o, h1, h2⟩ := find_tot kf L x hL hx hkf m kk (i + 1) (by omega) (by omega)
   exact ⟨o, h1, fun Kr Ke => by rw [yy58_l2]; unfold yy58_l2_b; rw [lt_t hil, cond_true, z0 i, gdt, gdt, Int.toNat_natCast, hb, cond_false, wN i (by omega)]; exact h2 Kr Ke⟩
theorem find_ok9 (kf : Nat) (L : List (List Int)) (x : List Int) (hL : L.length ≤ 1000) (hx : ∀ i, i < L.length → (L.getD i []).length ≤ 1000) (hkf : 2000 ≤ kf) : ∃ r : Int, ∀ {R : Type} (K : Int → Option R), yy58 kf L x K = K r := by
 obtain ⟨o, h1, h2⟩ := find_tot kf L x hL hx hkf L.length kf 0 (by omega) (by omega)
 refine ⟨(match o with | some j => (j : Int) | none => -1), fun K => ?_⟩
 unfold yy58 yy58_b
 refine (h2 _ _).trans ?_
 cases o <;> rfl
theorem marked_tot (kf : Nat) (t : List Bool) (ht : t.length ≤ 1000) : ∀ (m kk i : Nat) (r : List Int), i + m = t.length → m < kk → In t.length r → r.length ≤ i →
  ∃ r' : List Int, In t.length r' ∧ r'.length ≤ t.length ∧ ∀ {R : Type} (Ke : List Int → Option R), yy60_l3 kf kk t Ke (i : Int) r = Ke r'
 | m, 0, i, r, _, h, _, _ => by omega
 | 0, kk + 1, i, r, hi, _, h1, h2 => ⟨r, h1, by omega, fun Ke => by rw [yy60_l3]; unfold yy60_l3_b; rw [lt_f (by omega)]; rfl⟩
 | m + 1, kk + 1, i, r, hi, hk, h1, h2 => by
  have hil : i < t.length := by omega
  cases hb : t.getD i false with
  | true =>
   obtain ⟨r', q1, q2, q3⟩ := marked_tot kf t ht m kk (i + 1) (r ++ [(i : Int)]) (by omega) (by omega) (h1.app fun x hx => by rw [List.mem_singleton.1 hx]; omega) (by rw [List.length_append, List.length_singleton]; omega)
   refine ⟨r', q1, q2, fun Ke => ?_⟩
   rw [yy60_l3]; unfold yy60_l3_b
   rw [lt_t hil, cond_true, z0 i, gdt, gdt, Int.toNat_natCast, hb, cond_true, gds (by simp; omega), wN i (by omega)]
   exact q3 Ke
  | false =>
   obtain ⟨r', q1, q2, q3⟩ := marked_tot kf t ht m kk (i + 1) r (by omega) (by omega) h1 (by omega)
   refine ⟨r', q1, q2, fun Ke => ?_⟩
   rw [yy60_l3]; unfold yy60_l3_b
   rw [lt_t hil, cond_true, z0 i, gdt, gdt, Int.toNat_natCast, hb, cond_false, wN i (by omega)]
   exact q3 Ke
theorem marked_ok9 (kf : Nat) (t : List Bool) (ht : t.length ≤ 1000) (hk : 1100 ≤ kf) : ∃ r : List Int, In t.length r ∧ r.length ≤ t.length ∧ ∀ {R : Type} (K : List Int → Option R), yy60 kf t K = K r := by
 obtain ⟨r, q1, q2, q3⟩ := marked_tot kf t ht t.length kf 0 [] (by omega) (by omega) .nil (by simp)
 exact ⟨r, q1, q2, fun K => q3 _⟩
theorem rHas_tot (s : List Int) (b : Nat) (hb : b < 256) : ∃ r : Bool, ∀ {R : Type} (K : Bool → Option R), yy19 s (b : Int) K = K r := by
 have g2 : decide (0 ≤ ((b / 64 : Nat) : Int)) = true := decide_eq_true (by omega)
 have g3 : decide (((b / 64 : Nat) : Int) < 4) = true := decide_eq_true (by omega)
 have g4 : decide (0 ≤ ((b % 64 : Nat) : Int)) = true := decide_eq_true (by omega)
 refine ⟨decide ((Int.tmod (shr .u64 (s.getD (b / 64) (0 : Int)) ((b % 64 : Nat) : Int)) 2) = 1), fun K => ?_⟩
 simp only [yy19, yy19_b, idx64 b hb, mod64, g2, g3, g4, gd, cond_true, Int.toNat_natCast]
theorem u8_nat (x : Int) : ∃ b : Nat, b < 256 ∧ IntKind.u8.wrap x = (b : Int) := by
 refine ⟨(IntKind.u8.wrap x).toNat, ?_, ?_⟩
 ·rw [IntKind.wrap_u8]; omega
 ·rw [IntKind.wrap_u8]; omega
theorem mark_tot (kf : Nat) (l : List Int) (b : Nat) (hb : b < 256) (S : List (List Int)) (hl : l.length ≤ 100000000) (hIn : In S.length l) : ∀ (m kk i : Nat) (t : List Bool), i + m = l.length → m < kk → t.length = S.length →
  ∃ t' : List Bool, t'.length = S.length ∧ ∀ {R : Type} (Ke : List Bool → Option R), yy54_l2 kf kk l (b : Int) S Ke (i : Int) t = Ke t'
 | m, 0, i, t, _, h, _ => by omega
 | 0, kk + 1, i, t, hi, _, ht => ⟨t, ht, fun Ke => by rw [yy54_l2]; unfold yy54_l2_b; rw [lt_f (by omega)]; rfl⟩
 | m + 1, kk + 1, i, t, hi, hk, ht => by
  have hil : i < l.length := by omega
  obtain ⟨n, hn, hne⟩ := hIn.at hil
  have hnt : n < t.length := by omega
  cases hv : t.getD n false with
  | true =>
   obtain ⟨t', q1, q2⟩ := mark_tot kf l b hb S hl hIn m kk (i + 1) (t.set n true) (by omega) (by omega) (by rw [List.length_set]; exact ht)
   refine ⟨t', q1, fun Ke => ?_⟩
   rw [yy54_l2]; unfold yy54_l2_b
   rw [lt_t hil, cond_true, z0 i, gdt, gdt, gdt, gdt, Int.toNat_natCast, hne, gdl hnt, Int.toNat_natCast, hv, cond_true, gdl hnt, wN i (by omega)]
   exact q2 Ke
  | false =>
   obtain ⟨r, hr⟩ := rHas_tot (S.getD n (List.replicate 4 (0 : Int))) b hb
   obtain ⟨t', q1, q2⟩ := mark_tot kf l b hb S hl hIn m kk (i + 1) (t.set n r) (by omega) (by omega) (by rw [List.length_set]; exact ht)
   refine ⟨t', q1, fun Ke => ?_⟩
   rw [yy54_l2]; unfold yy54_l2_b
   rw [lt_t hil, cond_true, z0 i, gdt, gdt, gdt, gdt, Int.toNat_natCast, hne, gdl hnt, Int.toNat_natCast, hv, cond_false, gdt, gdt, gdl hn, hr, gdl hnt, wN i (by omega)]
   exact q2 Ke
theorem mark_ok9 (kf : Nat) (S : List (List Int)) (Fi La : List Int) (Fo : List (List Int)) (nu : Bool) (l : List Int) (b : Nat) (hb : b < 256) (hl : l.length ≤ 100000000) (hk : l.length < kf) (hIn : In S.length l) (t : List Bool) (ht : t.length = S.length) :
  ∃ t' : List Bool, t'.length = S.length ∧ ∀ {R : Type} (K : List Bool → Option R), yy54 kf S Fi La Fo nu l (b : Int) t K = K t' := by
 obtain ⟨t', q1, q2⟩ := mark_tot kf l b hb S hl hIn l.length kf 0 t (by omega) hk ht
 exact ⟨t', q1, fun K => by unfold yy54 yy54_b; exact q2 _⟩
structure Rws (m B : Nat) (F : List (List Int)) : Prop where
 ii : ∀ i, i < F.length → In m (F.getD i [])
 bb : ∀ i, i < F.length → (F.getD i []).length ≤ B
theorem step_tot (kf B : Nat) (hB : B ≤ 100000000) (hk : B < kf) (S : List (List Int)) (Fi La : List Int) (Fo : List (List Int)) (hF : Rws S.length B Fo) (hFS : Fo.length = S.length) (nu : Bool) (l : List Int) (b : Nat) (hb : b < 256) (hl : l.length ≤ 1000) (hIn : In S.length l) : ∀ (m kk i : Nat) (t : List Bool), i + m = l.length → m < kk → t.length = S.length →
  ∃ t' : List Bool, t'.length = S.length ∧ ∀ {R : Type} (Ke : List Bool → Option R), yy56_l5 kf kk l false (b : Int) S Fi La Fo nu Ke (i : Int) t = Ke t'
 | m, 0, i, t, _, h, _ => by omega
 | 0, kk + 1, i, t, hi, _, ht => ⟨t, ht, fun Ke => by rw [yy56_l5]; unfold yy56_l5_b; rw [lt_f (by omega)]; rfl⟩
 | m + 1, kk + 1, i, t, hi, hk', ht => by
  have hil : i < l.length := by omega
  obtain ⟨n, hn, hne⟩ := hIn.at hil
  have hnF : n < Fo.length := by omega
  have h1 := hF.bb n hnF
  obtain ⟨t1, p1, p2⟩ := mark_ok9 kf S Fi La Fo nu (Fo.getD n []) b hb (by omega) (by omega) (hF.ii n hnF) t ht
  obtain ⟨t', q1, q2⟩ := step_tot kf B hB hk S Fi La Fo hF hFS nu l b hb hl hIn m kk (i + 1) t1 (by omega) (by omega) p1
  refine ⟨t', q1, fun Ke => ?_⟩
  rw [yy56_l5]; unfold yy56_l5_b
  rw [lt_t hil, cond_true, z0 i, Bool.not_false, cond_true, gdt, gdt, Int.toNat_natCast, hne, gdl hnF, Int.toNat_natCast, p2, wN i (by omega)]
  exact q2 Ke
theorem step_ok9 (kf B : Nat) (hB : B ≤ 100000000) (hk : B + 2000 < kf) (S : List (List Int)) (hS : S.length ≤ 1000) (Fi La : List Int) (hFi : In S.length Fi) (hFil : Fi.length ≤ 1000) (Fo : List (List Int)) (hF : Rws S.length B Fo) (hFS : Fo.length = S.length) (nu : Bool) (l : List Int) (st : Bool) (b : Nat) (hb : b < 256) (hl : l.length ≤ 1000) (hIn : st = false → In S.length l) :
  ∃ r : List Int, In S.length r ∧ r.length ≤ S.length ∧ ∀ {R : Type} (K : List Int → Option R), yy56 kf S Fi La Fo nu l st (b : Int) K = K r := by
 have g1 : decide (0 ≤ (S.length : Int)) = true := decide_eq_true (by omega)
 have g2 : decide ((S.length : Int) ≤ (S.length : Int)) = true := decide_eq_true (by omega)
 have g3 : decide ((S.length : Int) < (SMALL : Int)) = true := decide_eq_true (by rw [show (SMALL : Nat) = 17179869184 from rfl]; omega)
 have hz : (List.replicate S.length false).length = S.length := List.length_replicate
 cases st with
 | true =>
  obtain ⟨t1, p1, p2⟩ := mark_ok9 kf S Fi La Fo nu Fi b hb (by omega) (by omega) hFi _ hz
  obtain ⟨r, q1, q2, q3⟩ := marked_ok9 kf t1 (by omega) (by omega)
  refine ⟨r, by rw [← p1]; exact q1, by omega, fun K => ?_⟩
  obtain ⟨k, rfl⟩ : ∃ k, kf = k + 1 := ⟨kf - 1, by omega⟩
  unfold yy56 yy56_b
  rw [g1, g2, g3, Int.toNat_natCast, gdt, gdt, gdt]
  dsimp only
  rw [cond_true, p2, yy56_l5]
  unfold yy56_l5_b
  rw [Bool.not_true, cond_false]
  cases decide ((0 : Int) < (l.length : Int)) <;> exact q3 K
 | false =>
  obtain ⟨t1, p1, p2⟩ := step_tot kf B hB (by omega) S Fi La Fo hF hFS nu l b hb hl (hIn rfl) l.length kf 0 _ (by omega) (by omega) hz
  obtain ⟨r, q1, q2, q3⟩ := marked_ok9 kf t1 (by omega) (by omega)
  refine ⟨r, by rw [← p1]; exact q1, by omega, fun K => ?_⟩
  unfold yy56 yy56_b
  rw [g1, g2, g3, Int.toNat_natCast, gdt, gdt, gdt]
  dsimp only
  rw [cond_false]
  exact (p2 _).trans (q3 K)
end Go.Ab.T

/- The reference's machine of sets of places: classes, places. -/
namespace Go.Ab.T
open Go Go.Ab
set_option linter.unusedVariables false
set_option linter.unusedSimpArgs false
theorem alike_tot (kf : Nat) (S : List (List Int)) (a b : Int) (hS : S.length ≤ 1000) : ∀ (m kk i : Nat), i + m = S.length → m < kk →
  ∃ r : Bool, ∀ {R : Type} (Kr : Bool → Option R) (Ke : Option R), yy27_l2 kf kk S (IntKind.u8.wrap a) (IntKind.u8.wrap b) Kr Ke (i : Int) = bif r then Kr false else Ke
 | m, 0, i, _, h => by omega
 | 0, kk + 1, i, hi, _ => ⟨false, fun Kr Ke => by rw [yy27_l2]; unfold yy27_l2_b; rw [lt_f (by omega)]; rfl⟩
 | m + 1, kk + 1, i, hi, hk => by
  have hil : i < S.length := by omega
  obtain ⟨x, hx, hxe⟩ := u8_nat a
  obtain ⟨y, hy, hye⟩ := u8_nat b
  obtain ⟨r1, h1⟩ := rHas_tot (S.getD i (List.replicate 4 (0 : Int))) x hx
  obtain ⟨r2, h2⟩ := rHas_tot (S.getD i (List.replicate 4 (0 : Int))) y hy
  obtain ⟨r, hr⟩ := alike_tot kf S a b hS m kk (i + 1) (by omega) (by omega)
  by_cases h : r1 = r2
  ·refine ⟨r, fun Kr Ke => ?_⟩
   rw [yy27_l2]; unfold yy27_l2_b
   rw [lt_t hil, cond_true, z0 i, gdt, gdt, Int.toNat_natCast, hxe, h1, gdt, gdt, hye, h2, decide_eq_true h, Bool.not_true, cond_false, wN i (by omega), ← hxe, ← hye]
   exact hr Kr Ke
  ·refine ⟨true, fun Kr Ke => ?_⟩
   rw [yy27_l2]; unfold yy27_l2_b
   rw [lt_t hil, cond_true, z0 i, gdt, gdt, Int.toNat_natCast, hxe, h1, gdt, gdt, hye, h2, decide_eq_false h, Bool.not_false, cond_true, cond_true]
theorem alike_ok9 (kf : Nat) (S : List (List Int)) (a b : Int) (hS : S.length ≤ 1000) (hk : 1100 ≤ kf) : ∃ r : Bool, ∀ {R : Type} (K : Bool → Option R), yy27 kf S (IntKind.u8.wrap a) (IntKind.u8.wrap b) K = K r := by
 obtain ⟨r, hr⟩ := alike_tot kf S a b hS S.length kf 0 (by omega) (by omega)
 refine ⟨!r, fun K => ?_⟩
 unfold yy27 yy27_b
 refine (hr _ _).trans ?_
 cases r <;> rfl
theorem cls7_tot (kf : Nat) (hkf : 1100 ≤ kf) (S : List (List Int)) (hS : S.length ≤ 1000) (c : Int) (x C reps : List Int) (hR : reps.length ≤ 256) : ∀ (m kk i : Nat), i + m = reps.length → m < kk →
  ∃ j : Nat, j ≤ reps.length ∧ ∀ {R : Type} (Ke : (List (List Int)) → Int → Int → (List Int) → (List Int) → (List Int) → Option R), yy18_l7 kf kk S c x C reps Ke (i : Int) = Ke S c (j : Int) x C reps
 | m, 0, i, _, h => by omega
 | 0, kk + 1, i, hi, _ => ⟨i, by omega, fun Ke => by rw [yy18_l7]; unfold yy18_l7_b; rw [lt_f (by omega)]; rfl⟩
 | m + 1, kk + 1, i, hi, hk => by
  have hil : i < reps.length := by omega
  obtain ⟨r, hr⟩ := alike_ok9 kf S c (reps.getD i 0) hS hkf
  cases r with
  | true => exact ⟨i, by omega, fun Ke => by rw [yy18_l7]; unfold yy18_l7_b; rw [lt_t hil, cond_true, z0 i, gdt, gdt, Int.toNat_natCast, hr]; rfl⟩
  | false =>
   obtain ⟨j, h1, h2⟩ := cls7_tot kf hkf S hS c x C reps hR m kk (i + 1) (by omega) (by omega)
   exact ⟨j, h1, fun Ke => by rw [yy18_l7]; unfold yy18_l7_b; rw [lt_t hil, cond_true, z0 i, gdt, gdt, Int.toNat_natCast, hr, Bool.not_false, cond_true, wN i (by omega)]; exact h2 Ke⟩
theorem cls4_tot (kf : Nat) (hkf : 1100 ≤ kf) (S : List (List Int)) (hS : S.length ≤ 1000) (x : List Int) : ∀ (m kk i : Nat) (C reps : List Int), i + m = 256 → m + 300 < kk → C.length = 256 → reps.length ≤ i → (∀ j, j < i → ∃ n : Nat, n < reps.length ∧ C.getD j 0 = (n : Int)) →
  ∃ C' reps' : List Int, C'.length = 256 ∧ reps'.length ≤ 256 ∧ (∀ j, j < 256 → ∃ n : Nat, n < reps'.length ∧ C'.getD j 0 = (n : Int)) ∧ ∀ {R : Type} (Ke : List Int → List Int → List Int → Option R), yy18_l4 kf kk Ke S (i : Int) x C reps = Ke x C' reps'
 | m, 0, i, C, reps, _, h, _, _, _ => by omega
 | 0, kk + 1, i, C, reps, hi, _, h1, h2, h3 => ⟨C, reps, h1, by omega, fun j hj => h3 j (by omega), fun Ke => by rw [yy18_l4]; unfold yy18_l4_b; rw [show decide ((i : Int) < 256) = false from decide_eq_false (by omega)]; rfl⟩
 | m + 1, kk + 1, i, C, reps, hi, hk, h1, h2, h3 => by
  have hi2 : decide ((i : Int) < 256) = true := decide_eq_true (by omega)
  obtain ⟨j, j1, j2⟩ := cls7_tot kf hkf S hS (i : Int) x C reps (by omega) reps.length kk 0 (by omega) (by omega)
  have hw : IntKind.u8.wrap (j : Int) = (j : Int) := by rw [IntKind.wrap_u8]; omega
  obtain ⟨reps', hr⟩ : ∃ reps', reps' = if j = reps.length then reps ++ [(i : Int)] else reps := ⟨_, rfl⟩
  have hrl : reps.length ≤ reps'.length ∧ reps'.length ≤ i + 1 ∧ j < reps'.length := by
   rw [hr]; split
   ·rw [List.length_append, List.length_singleton]; omega
   ·omega
  obtain ⟨C', r', q1, q2, q3, q4⟩ := cls4_tot kf hkf S hS x m kk (i + 1) (C.set i (j : Int)) reps' (by omega) (by omega) (by rw [List.length_set]; exact h1) (by omega) (fun u hu => by
   by_cases hui : u = i
   ·subst hui
    exact ⟨j, hrl.2.2, by rw [List.getD_eq_getElem?_getD, List.getElem?_set_self (by omega)]; rfl⟩
   ·obtain ⟨n, n1, n2⟩ := h3 u (by omega)
    exact ⟨n, by omega, by rw [List.getD_eq_getElem?_getD, List.getElem?_set_ne (by omega), ← List.getD_eq_getElem?_getD]; exact n2⟩)
  refine ⟨C', r', q1, q2, q3, fun Ke => ?_⟩
  rw [yy18_l4]; unfold yy18_l4_b
  rw [hi2, cond_true]
  refine (j2 _).trans ?_
  dsimp only
  rw [z0 i, hi2, hw, Int.toNat_natCast, wN i (by omega)]
  by_cases hj : j = reps.length
  ·rw [decide_eq_true (show (j : Int) = (reps.length : Int) by omega), cond_true, gds (by simp; omega), gdt, gdt]
   rw [if_pos hj] at hr
   rw [← hr]
   exact q4 Ke
  ·rw [decide_eq_false (show ¬ (j : Int) = (reps.length : Int) by omega), cond_false, gdt, gdt]
   rw [if_neg hj] at hr
   rw [← hr]
   exact q4 Ke
theorem classes_tot (kf : Nat) (hkf : 1100 ≤ kf) (S : List (List Int)) (hS : S.length ≤ 1000) : ∃ (C : List Int) (n : Nat), C.length = 256 ∧ n ≤ 256 ∧ (∀ j, j < 256 → ∃ u : Nat, u < n ∧ C.getD j 0 = (u : Int)) ∧ ∀ {R : Type} (K : List Int → Int → Option R), yy18 kf S K = K C (n : Int) := by
 obtain ⟨C, reps, q1, q2, q3, q4⟩ := cls4_tot kf hkf S hS (List.replicate 256 (0 : Int)) 256 kf 0 (List.replicate 256 (0 : Int)) [] (by omega) (by omega) List.length_replicate (Nat.le_refl 0) (fun j hj => by omega)
 exact ⟨C, reps.length, q1, q2, q3, fun K => by unfold yy18 yy18_b; exact q4 _⟩
theorem first_tot (kf : Nat) (C : List Int) (n : Nat) (hC : ∀ j, j < 256 → ∃ u : Nat, u < n ∧ C.getD j 0 = (u : Int)) : ∀ (m kk : Nat) (out : List Int), m ≤ 256 → m < kk → out.length = n → (∀ x ∈ out, ∃ b : Nat, b < 256 ∧ x = (b : Int)) →
  ∃ out' : List Int, out'.length = n ∧ (∀ x ∈ out', ∃ b : Nat, b < 256 ∧ x = (b : Int)) ∧ ∀ {R : Type} (Ke : List Int → Option R), yy50_l3 kf kk C Ke ((m : Int) - 1) out = Ke out'
 | m, 0, out, _, h, _, _ => by omega
 | 0, kk + 1, out, _, _, h1, h2 => ⟨out, h1, h2, fun Ke => by rw [yy50_l3]; unfold yy50_l3_b; rw [show decide (0 ≤ ((0 : Nat) : Int) - 1) = false from rfl]; rfl⟩
 | m + 1, kk + 1, out, hm, hk, h1, h2 => by
  obtain ⟨u, u1, u2⟩ := hC m (by omega)
  obtain ⟨b, b1, b2⟩ := u8_nat (m : Int)
  obtain ⟨o, q1, q2, q3⟩ := first_tot kf C n hC m kk (out.set u (b : Int)) (by omega) (by omega) (by rw [List.length_set]; exact h1) (fun x hx => by
   rcases List.mem_or_eq_of_mem_set hx with h | h
   ·exact h2 x h
   ·exact ⟨b, b1, h⟩)
  have e : ((m + 1 : Nat) : Int) - 1 = (m : Int) := by omega
  have e2 : IntKind.i64.wrap ((m : Int) - 1) = (m : Int) - 1 := by rw [IntKind.wrap_i64]; omega
  refine ⟨o, q1, q2, fun Ke => ?_⟩
  rw [yy50_l3]; unfold yy50_l3_b
  rw [e, z0 m, cond_true, gdt, show decide ((m : Int) < 256) = true from decide_eq_true (by omega), gdt, Int.toNat_natCast, u2, gdl (by omega : u < out.length), Int.toNat_natCast, b2, e2]
  exact q3 Ke
theorem first_ok9 (kf : Nat) (hkf : 300 ≤ kf) (C : List Int) (n : Nat) (hn : n ≤ 256) (hC : ∀ j, j < 256 → ∃ u : Nat, u < n ∧ C.getD j 0 = (u : Int)) :
  ∃ out : List Int, out.length = n ∧ (∀ x ∈ out, ∃ b : Nat, b < 256 ∧ x = (b : Int)) ∧ ∀ {R : Type} (K : List Int → Option R), yy50 kf C (n : Int) K = K out := by
 obtain ⟨o, q1, q2, q3⟩ := first_tot kf C n hC 256 kf (List.replicate n 0) (by omega) (by omega) List.length_replicate (fun x hx => ⟨0, by omega, by rw [List.eq_of_mem_replicate hx]; rfl⟩)
 refine ⟨o, q1, q2, fun K => ?_⟩
 unfold yy50 yy50_b
 rw [z0 n, gdt, show decide ((n : Int) ≤ (n : Int)) = true from decide_eq_true (by omega), gdt, show decide ((n : Int) < (SMALL : Int)) = true from decide_eq_true (by rw [show (SMALL : Nat) = 17179869184 from rfl]; omega), gdt, Int.toNat_natCast]
 exact q3 _
theorem Rws.set {m B B' : Nat} {F : List (List Int)} (h : Rws m B F) (hB : B ≤ B') {n : Nat} {r : List Int} (h1 : In m r) (h2 : r.length ≤ B') : Rws m B' (F.set n r) := by
 have hg : ∀ i, (F.set n r).getD i [] = if n = i ∧ n < F.length then r else F.getD i [] := fun i => by
  rw [List.getD_eq_getElem?_getD, List.getElem?_set]
  by_cases h : n = i
  ·subst h
   by_cases hl : n < F.length
   ·simp [hl]
   ·simp [hl, List.getElem?_eq_none (Nat.le_of_not_lt hl), List.getD_eq_getElem?_getD]
  ·simp [h, List.getD_eq_getElem?_getD]
 refine ⟨fun i hi => ?_, fun i hi => ?_⟩ <;> rw [List.length_set] at hi <;> rw [hg] <;> split
 ·exact h1
 ·exact h.ii i hi
 ·exact h2
 ·have := h.bb i hi; omega
theorem Rws.mono {m m' B B' : Nat} {F : List (List Int)} (h : Rws m B F) (hm : m ≤ m') (hB : B ≤ B') : Rws m' B' F := ⟨fun i hi => (h.ii i hi).mono hm, fun i hi => Nat.le_trans (h.bb i hi) hB⟩
theorem goes_tot (kf : Nat) (M : Nat) (l q : List Int) (nu : Bool) (S : List (List Int)) (a b : List Int) (hl : l.length ≤ 1000) (hq : q.length ≤ 1000) (hq1 : In M q) : ∀ (m kk i B : Nat) (F : List (List Int)), i + m = l.length → m < kk → In F.length l → Rws M B F → B + m * q.length ≤ 1000000000 →
  ∃ F' : List (List Int), F'.length = F.length ∧ Rws M (B + m * q.length) F' ∧ ∀ {R : Type} (Ke : Bool → (List (List Int)) → (List Int) → (List Int) → (List (List Int)) → Option R), yy53_l1 kf kk l q nu S a b Ke (i : Int) F = Ke nu S a b F'
 | m, 0, i, B, F, _, h, _, _, _ => by omega
 | 0, kk + 1, i, B, F, hi, _, h1, h2, _ => ⟨F, rfl, by rw [Nat.zero_mul]; exact h2, fun Ke => by rw [yy53_l1]; unfold yy53_l1_b; rw [lt_f (by omega)]; rfl⟩
 | m + 1, kk + 1, i, B, F, hi, hk, h1, h2, hb => by
  have hil : i < l.length := by omega
  rw [Nat.succ_mul] at hb
  obtain ⟨n, hn, hne⟩ := h1.at hil
  have r1 := h2.ii n hn
  have r2 := h2.bb n hn
  obtain ⟨F', q1, q2, q3⟩ := goes_tot kf M l q nu S a b hl hq hq1 m kk (i + 1) (B + q.length) (F.set n (F.getD n [] ++ q)) (by omega) (by omega) (by rw [List.length_set]; exact h1) (h2.set (by omega) (r1.app hq1) (by rw [List.length_append]; omega)) (by omega)
  refine ⟨F', by rw [q1, List.length_set], by rw [Nat.succ_mul]; exact q2.mono (Nat.le_refl _) (by omega), fun Ke => ?_⟩
  rw [yy53_l1]; unfold yy53_l1_b
  rw [lt_t hil, cond_true, z0 i, gdt, gdt, gdt, gdt, Int.toNat_natCast, hne, gdl hn, Int.toNat_natCast, List.nil_append, gds (by rw [List.length_nil]; omega), gds (by omega), gdl hn, wN i (by omega)]
  exact q3 Ke
theorem goes_ok9 (kf : Nat) (hkf : 2000 ≤ kf) (M B : Nat) (l q : List Int) (nu : Bool) (S : List (List Int)) (a b : List Int) (F : List (List Int)) (hl : l.length ≤ 1000) (hq : q.length ≤ 1000) (hq1 : In M q) (h1 : In F.length l) (h2 : Rws M B F) (hb : B + l.length * q.length ≤ 1000000000) :
  ∃ F' : List (List Int), F'.length = F.length ∧ Rws M (B + l.length * q.length) F' ∧ ∀ {R : Type} (K : Bool → (List (List Int)) → (List Int) → (List Int) → (List (List Int)) → Option R), yy53 kf l q nu S a b F K = K nu S a b F' := by
 obtain ⟨F', q1, q2, q3⟩ := goes_tot kf M l q nu S a b hl hq hq1 l.length kf 0 B F (by omega) (by omega) h1 h2 hb
 exact ⟨F', q1, q2, fun K => by unfold yy53 yy53_b; exact q3 _⟩
end Go.Ab.T

/- The reference's machine of sets of places: the places of an expression. -/
namespace Go.Ab.T
open Go Go.Ab
set_option linter.unusedVariables false
set_option linter.unusedSimpArgs false
def cc (n : Nat) : Nat := 90601 * n
theorem cc_add (a b : Nat) : cc (a + b) = cc a + cc b := Nat.mul_add _ _ _
theorem cc_le {a b : Nat} (h : a ≤ b) : cc a ≤ cc b := Nat.mul_le_mul_left _ h
theorem cc_two (u v : Nat) : cc (2 * (u + v)) = cc (2 * u) + cc (2 * v) := by rw [Nat.mul_add]; exact cc_add _ _
theorem cc_one (u : Nat) (h : 1 ≤ u) : cc (2 * u - 1) + 90601 = cc (2 * u) := by
 have : cc 1 = 90601 := rfl
 rw [← this, ← cc_add]; congr 1; omega
structure Pst (B : Nat) (S F : List (List Int)) : Prop where
 fl : F.length = S.length
 rw : Rws S.length B F
theorem Pst.mono {B B' : Nat} {S F : List (List Int)} (h : Pst B S F) (hB : B ≤ B') : Pst B' S F := ⟨h.fl, h.rw.mono (Nat.le_refl _) hB⟩
def OfOk (kf : Nat) (x : Sd) : Prop := ∀ (B : Nat) (nu : Bool) (S : List (List Int)) (a b : List Int) (F : List (List Int)), Pst B S F → S.length + nod x ≤ 1000 → B + cc (2 * nod x) ≤ 100000000 →
 ∃ (Sr : List (List Int)) (Fi La : List Int) (Fo : List (List Int)) (nr nu' : Bool) (S' : List (List Int)) (a' b' : List Int) (F' : List (List Int)), Pst (B + cc (2 * nod x - 1)) S' F' ∧ S.length ≤ S'.length ∧ S'.length ≤ S.length + nod x ∧
  In S'.length Fi ∧ In S'.length La ∧ Fi.length ≤ nod x ∧ La.length ≤ nod x ∧
  ∀ {R : Type} (K : (List (List Int)) → (List Int) → (List Int) → (List (List Int)) → Bool → Bool → (List (List Int)) → (List Int) → (List Int) → (List (List Int)) → Option R),
   yy55 kf (kd x) (stt x) (kk x) nu S a b F K = K Sr Fi La Fo nr nu' S' a' b' F'
theorem nodL_drop {ks : List Sd} {i : Nat} (h : i < ks.length) : nodL (ks.drop i) = nod ks[i] + nodL (ks.drop (i + 1)) := by
 rw [List.drop_eq_getElem_cons h]; rfl
theorem getD_el {ks : List Sd} {i : Nat} (h : i < ks.length) (d : Sd) : ks.getD i d = ks[i] := by
 rw [List.getD_eq_getElem?_getD, List.getElem?_eq_getElem h]; rfl
theorem alt_tot (kf : Nat) (ks : List Sd) (hks : ks.length ≤ 1000) (ih : ∀ x ∈ ks, OfOk kf x) (x1 : Bool) (x2 : List (List Int)) (x3 x4 : List Int) (x5 x6 x7 : List (List Int)) : ∀ (m kk' i : Nat) (B : Nat) (pn on : Bool) (S : List (List Int)) (a b : List Int) (F : List (List Int)) (Fi La : List Int), i + m = ks.length → m < kk' →
  Pst B S F → S.length + nodL (ks.drop i) ≤ 1000 → B + cc (2 * nodL (ks.drop i)) ≤ 100000000 → In S.length Fi → In S.length La → Fi.length + nodL (ks.drop i) ≤ 1000 → La.length + nodL (ks.drop i) ≤ 1000 →
  ∃ (pn' on' : Bool) (S' : List (List Int)) (a' b' : List Int) (F' : List (List Int)) (Fi' La' : List Int), Pst (B + cc (2 * nodL (ks.drop i))) S' F' ∧ S.length ≤ S'.length ∧ S'.length ≤ S.length + nodL (ks.drop i) ∧
   In S'.length Fi' ∧ In S'.length La' ∧ Fi'.length ≤ Fi.length + nodL (ks.drop i) ∧ La'.length ≤ La.length + nodL (ks.drop i) ∧
   ∀ {R : Type} (Ke : Bool → Bool → Bool → (List (List Int)) → (List Int) → (List Int) → (List (List Int)) → (List (List Int)) → (List Int) → (List Int) → (List (List Int)) → (List (List Int)) → (List Int) → (List Int) → (List (List Int)) → Option R),
    yy55_l16 (yy55 kf) kf kk' ks x1 x2 x3 x4 x5 x6 x7 Ke (i : Int) pn on S a b F Fi La = Ke pn' x1 on' S' a' b' F' x2 x3 x4 x5 x6 Fi' La' x7
 | m, 0, i, _, _, _, _, _, _, _, _, _, _, h, _, _, _, _, _, _, _ => by omega
 | 0, kk' + 1, i, B, pn, on, S, a, b, F, Fi, La, hi, _, h1, h2, h3, h4, h5, h6, h7 => by
  refine ⟨pn, on, S, a, b, F, Fi, La, h1.mono (by omega), by omega, by omega, h4, h5, by omega, by omega, fun Ke => ?_⟩
  rw [yy55_l16]; unfold yy55_l16_b
  rw [lt_f (by omega)]; rfl
 | m + 1, kk' + 1, i, B, pn, on, S, a, b, F, Fi, La, hi, hk, h1, h2, h3, h4, h5, h6, h7 => by
  have hil : i < ks.length := by omega
  have hnd := nodL_drop hil
  have hp := nod_pos ks[i]
  have c1 := cc_two (nod ks[i]) (nodL (ks.drop (i + 1)))
  have c2 := cc_one (nod ks[i]) hp
  rw [hnd] at h2 h3 h6 h7 ⊢
  obtain ⟨Sr, Fx, Lx, Fo, nr, nu', S1, a1, b1, F1, q1, q2, q3, q4, q5, q6, q7, q8⟩ := ih ks[i] (List.getElem_mem hil) B pn S a b F h1 (by omega) (by omega)
  have hB : B + cc (2 * nod ks[i] - 1) ≤ B + cc (2 * nod ks[i]) := by omega
  obtain ⟨pn', on', S', a', b', F', Fi', La', r1, r2, r3, r4, r5, r6, r7, r8⟩ := alt_tot kf ks hks ih x1 x2 x3 x4 x5 x6 x7 m kk' (i + 1) (B + cc (2 * nod ks[i])) nu' (if on then true else nr) S1 a1 b1 F1 (Fi ++ Fx) (La ++ Lx) (by omega) (by omega) (q1.mono hB) (by omega) (by omega)
   ((h4.mono q2).app q4) ((h5.mono q2).app q5) (by rw [List.length_append]; omega) (by rw [List.length_append]; omega)
  rw [List.length_append] at r6 r7
  refine ⟨pn', on', S', a', b', F', Fi', La', r1.mono (by omega), by omega, by omega, r4, r5, by omega, by omega, fun Ke => ?_⟩
  rw [yy55_l16]; unfold yy55_l16_b
  rw [lt_t hil, cond_true, z0 i, gdt, gdt, Int.toNat_natCast, getD_el hil]
  refine (q8 _).trans ?_
  rw [gds (by omega), gds (by omega), wN i (by omega)]
  cases on with
  | true => exact r8 Ke
  | false => exact r8 Ke
theorem cat_tot (kf : Nat) (hkf : 2000 ≤ kf) (ks : List Sd) (hks : nodL ks ≤ 301) (ih : ∀ x ∈ ks, OfOk kf x) (x1 : Bool) (x2 x3 x4 : List (List Int)) (x5 x6 : List Int) (x7 : List (List Int)) : ∀ (m kk' i : Nat) (B : Nat) (pn on : Bool) (S : List (List Int)) (a b : List Int) (F : List (List Int)) (Fi La : List Int), i + m = ks.length → m < kk' →
  Pst B S F → S.length + nodL (ks.drop i) ≤ 1000 → B + cc (2 * nodL (ks.drop i)) ≤ 100000000 → In S.length Fi → In S.length La → Fi.length + nodL (ks.drop i) ≤ 301 → La.length + nodL (ks.drop i) ≤ 301 →
  ∃ (pn' on' : Bool) (S' : List (List Int)) (a' b' : List Int) (F' : List (List Int)) (Fi' La' : List Int), Pst (B + cc (2 * nodL (ks.drop i))) S' F' ∧ S.length ≤ S'.length ∧ S'.length ≤ S.length + nodL (ks.drop i) ∧
   In S'.length Fi' ∧ In S'.length La' ∧ Fi'.length ≤ Fi.length + nodL (ks.drop i) ∧ La'.length ≤ La.length + nodL (ks.drop i) ∧
   ∀ {R : Type} (Ke : Bool → Bool → (List (List Int)) → (List Int) → (List Int) → (List (List Int)) → Bool → (List (List Int)) → (List Int) → (List Int) → (List (List Int)) → (List (List Int)) → (List Int) → (List Int) → (List (List Int)) → Option R),
    yy55_l24 (yy55 kf) kf kk' ks x1 x2 x3 x4 x5 x6 x7 Ke (i : Int) pn Fi La on S a b F = Ke pn' x1 x2 Fi' La' x3 on' S' a' b' F' x4 x5 x6 x7
 | m, 0, i, _, _, _, _, _, _, _, _, _, _, h, _, _, _, _, _, _, _ => by omega
 | 0, kk' + 1, i, B, pn, on, S, a, b, F, Fi, La, hi, _, h1, h2, h3, h4, h5, h6, h7 => by
  refine ⟨pn, on, S, a, b, F, Fi, La, h1.mono (by omega), by omega, by omega, h4, h5, by omega, by omega, fun Ke => ?_⟩
  rw [yy55_l24]; unfold yy55_l24_b
  rw [lt_f (by omega)]; rfl
 | m + 1, kk' + 1, i, B, pn, on, S, a, b, F, Fi, La, hi, hk, h1, h2, h3, h4, h5, h6, h7 => by
  have hil : i < ks.length := by omega
  have hkl := nodL_len ks
  have hnd := nodL_drop hil
  have hp := nod_pos ks[i]
  have c1 := cc_two (nod ks[i]) (nodL (ks.drop (i + 1)))
  have c2 := cc_one (nod ks[i]) hp
  rw [hnd] at h2 h3 h6 h7 ⊢
  obtain ⟨Sr, Fx, Lx, Fo, nr, nu', S1, a1, b1, F1, q1, q2, q3, q4, q5, q6, q7, q8⟩ := ih ks[i] (List.getElem_mem hil) B pn S a b F h1 (by omega) (by omega)
  have hprod : La.length * Fx.length ≤ 90601 := Nat.le_trans (Nat.mul_le_mul (by omega : La.length ≤ 301) (by omega : Fx.length ≤ 301)) (by decide)
  obtain ⟨F2, g1, g2, g3⟩ := goes_ok9 kf hkf S1.length (B + cc (2 * nod ks[i] - 1)) La Fx nu' S1 a1 b1 F1 (by omega) (by omega) q4 (by rw [q1.fl]; exact h5.mono q2) q1.rw (by omega)
  have hP2 : Pst (B + cc (2 * nod ks[i])) S1 F2 := ⟨g1.trans q1.fl, g2.mono (Nat.le_refl _) (by omega)⟩
  obtain ⟨Fn, hFn⟩ : ∃ Fn, Fn = if on then Fi ++ Fx else Fi := ⟨_, rfl⟩
  obtain ⟨Ln, hLn⟩ : ∃ Ln, Ln = if nr then La ++ Lx else Lx := ⟨_, rfl⟩
  have f1 : In S1.length Fn ∧ Fn.length ≤ Fi.length + nod ks[i] := by
   rw [hFn]; split
   ·exact ⟨(h4.mono q2).app q4, by rw [List.length_append]; omega⟩
   ·exact ⟨h4.mono q2, by omega⟩
  have l1 : In S1.length Ln ∧ Ln.length ≤ La.length + nod ks[i] := by
   rw [hLn]; split
   ·exact ⟨(h5.mono q2).app q5, by rw [List.length_append]; omega⟩
   ·exact ⟨q5, by omega⟩
  obtain ⟨pn', on', S', a', b', F', Fi', La', r1, r2, r3, r4, r5, r6, r7, r8⟩ := cat_tot kf hkf ks hks ih x1 x2 x3 x4 x5 x6 x7 m kk' (i + 1) (B + cc (2 * nod ks[i])) nu' (if on then nr else false) S1 a1 b1 F2 Fn Ln (by omega) (by omega) hP2 (by omega) (by omega) f1.1 l1.1 (by omega) (by omega)
  refine ⟨pn', on', S', a', b', F', Fi', La', r1.mono (by omega), by omega, by omega, r4, r5, by omega, by omega, fun Ke => ?_⟩
  rw [yy55_l24]; unfold yy55_l24_b
  rw [lt_t hil, cond_true, z0 i, gdt, gdt, Int.toNat_natCast, getD_el hil]
  refine (q8 _).trans ?_
  refine (g3 _).trans ?_
  rw [wN i (by omega)]
  have e1 : ∀ {R : Type} (x : Option R) (l : List Int), l.length ≤ 1000 → gd (decide (([] : List Int).length + l.length < SMALL)) x = x := fun x l hl => gds (by rw [List.length_nil]; omega) x
  cases on <;> cases nr <;> simp only [if_true, if_false, Bool.false_eq_true] at hFn hLn r8 <;> dsimp only <;> simp only [cond_true, cond_false, List.nil_append]
  ·rw [hFn, hLn] at r8; exact r8 Ke
  ·rw [hFn, hLn] at r8; rw [e1 _ _ (by omega), gds (by omega)]; exact r8 Ke
  ·rw [hFn, hLn] at r8; rw [e1 _ _ (by omega), gds (by omega)]; exact r8 Ke
  ·rw [hFn, hLn] at r8; rw [e1 _ _ (by omega), gds (by omega), e1 _ _ (by omega), gds (by omega)]; exact r8 Ke
theorem of_tot : ∀ (n : Nat) (t : Sd) (kf : Nat), nod t ≤ n → n ≤ 301 → plT t = true → n + 3000 ≤ kf → OfOk kf t
 | 0, t, kf, h, _, _, _ => by have := nod_pos t; omega
 | n + 1, t, 0, _, _, _, h => by omega
 | n + 1, t, kf + 1, hn, hn1, hpl, hk => by
  intro B nu S a b F h1 h2 h3
  have hnd := nod_eq t
  have hp := nod_pos t
  rw [plT_eq, Bool.and_eq_true] at hpl
  have ih : ∀ x ∈ kk t, OfOk kf x := fun x hx => of_tot n x kf (by have := nod_kid hx; omega) (by omega) (plL_iff.1 hpl.2 x hx) (by omega)
  have hkl := nodL_len (kk t)
  have d1 := cc_le (a := 2 * nodL (kk t)) (b := 2 * nod t - 1) (by omega)
  have d2 := cc_one (nod t) hp
  by_cases k2 : kd t = 2
  ·refine ⟨[], [], [], [], true, nu, S, a, b, F, h1.mono (by omega), by omega, by omega, .nil, .nil, by simp, by simp, fun K => ?_⟩
   rw [yy55]; unfold yy55_b
   rw [decide_eq_true k2, cond_true]
  by_cases k3 : kd t = 3
  ·refine ⟨[], [(S.length : Int)], [(S.length : Int)], [], false, nu, S ++ [stt t], a, b, F ++ [[]], ⟨by simp [h1.fl], ?_⟩, by simp, by simp; omega, ?_, ?_, by simpa using hp, by simpa using hp, fun K => ?_⟩
   ·have hg : ∀ i, (F ++ [[]]).getD i [] = if i < F.length then F.getD i [] else [] := fun i => by
     rw [List.getD_eq_getElem?_getD]
     split
     ·rename_i hi; rw [List.getElem?_append_left hi, ← List.getD_eq_getElem?_getD]
     ·rename_i hi
      rw [List.getElem?_append_right (by omega)]
      cases hq : i - F.length with
      | zero => rfl
      | succ j => rfl
    refine ⟨fun i hi => ?_, fun i hi => ?_⟩ <;> rw [hg] <;> split
    ·rename_i hi'; exact (h1.rw.ii i hi').mono (by simp)
    ·exact .nil
    ·rename_i hi'; have := h1.rw.bb i hi'; omega
    ·simp
   ·intro x hx; rw [List.mem_singleton.1 hx]; simp; omega
   ·intro x hx; rw [List.mem_singleton.1 hx]; simp; omega
   ·rw [yy55]; unfold yy55_b
    have hF := h1.fl
    rw [decide_eq_false k2, cond_false, decide_eq_true k3, cond_true, gds (by simp; omega), gds (by simp; omega)]
  by_cases k6 : kd t = 6
  ·have hf := hpl.1
   rw [k6] at hf
   obtain ⟨x, hxe⟩ : ∃ x, kk t = [x] := List.length_eq_one_iff.1 (form6.1 hf).2.1
   have hx : x ∈ kk t := by rw [hxe]; exact List.mem_singleton.2 rfl
   have hnx := nod_kid hx
   have hpx := nod_pos x
   have c1 := cc_one (nod x) hpx
   have c2 := cc_le (a := 2 * nod x) (b := 2 * nod t - 1) (by omega)
   have c3 := cc_one (nod t) hp
   obtain ⟨Sr, Fx, Lx, Fo, nr, nu', S1, a1, b1, F1, q1, q2, q3, q4, q5, q6, q7, q8⟩ := ih x hx B nu S a b F h1 (by omega) (by omega)
   have hprod : Lx.length * Fx.length ≤ 90601 := Nat.le_trans (Nat.mul_le_mul (by omega : Lx.length ≤ 301) (by omega : Fx.length ≤ 301)) (by decide)
   obtain ⟨F2, g1, g2, g3⟩ := goes_ok9 kf (by omega) S1.length (B + cc (2 * nod x - 1)) Lx Fx nu' S1 a1 b1 F1 (by omega) (by omega) q4 (by rw [q1.fl]; exact q5) q1.rw (by omega)
   refine ⟨Sr, Fx, Lx, Fo, true, nu', S1, a1, b1, F2, ⟨g1.trans q1.fl, g2.mono (Nat.le_refl _) (by omega)⟩, q2, by omega, q4, q5, by omega, by omega, fun K => ?_⟩
   rw [yy55]; unfold yy55_b
   rw [decide_eq_false k2, cond_false, decide_eq_false k3, cond_false, decide_eq_true k6, cond_true, hxe, show decide (0 < ((([x] : List Sd).length : Nat) : Int)) = true from rfl, gdt]
   refine (q8 _).trans ?_
   exact g3 _
  by_cases k5 : kd t = 5
  ·obtain ⟨pn', on', S', a', b', F', Fi', La', r1, r2, r3, r4, r5, r6, r7, r8⟩ := alt_tot kf (kk t) (by omega) ih false [] [] [] [] [] [] (kk t).length kf 0 B nu false S a b F [] [] (by omega) (by omega) h1 (by rw [List.drop_zero]; omega) (by rw [List.drop_zero]; omega) .nil .nil (by rw [List.drop_zero]; simp; omega) (by rw [List.drop_zero]; simp; omega)
   rw [List.drop_zero] at r1 r3 r6 r7
   simp only [List.length_nil, Nat.zero_add] at r6 r7
   refine ⟨[], Fi', La', [], on', pn', S', a', b', F', r1.mono (by omega), r2, by omega, r4, r5, by omega, by omega, fun K => ?_⟩
   rw [yy55]; unfold yy55_b
   rw [decide_eq_false k2, cond_false, decide_eq_false k3, cond_false, decide_eq_false k6, cond_false, decide_eq_true k5, cond_true]
   exact r8 _
  by_cases k4 : kd t = 4
  ·obtain ⟨pn', on', S', a', b', F', Fi', La', r1, r2, r3, r4, r5, r6, r7, r8⟩ := cat_tot kf (by omega) (kk t) (by omega) ih false [] [] [] [] [] [] (kk t).length kf 0 B nu true S a b F [] [] (by omega) (by omega) h1 (by rw [List.drop_zero]; omega) (by rw [List.drop_zero]; omega) .nil .nil (by rw [List.drop_zero]; simp; omega) (by rw [List.drop_zero]; simp; omega)
   rw [List.drop_zero] at r1 r3 r6 r7
   simp only [List.length_nil, Nat.zero_add] at r6 r7
   refine ⟨[], Fi', La', [], on', pn', S', a', b', F', r1.mono (by omega), r2, by omega, r4, r5, by omega, by omega, fun K => ?_⟩
   rw [yy55]; unfold yy55_b
   rw [decide_eq_false k2, cond_false, decide_eq_false k3, cond_false, decide_eq_false k6, cond_false, decide_eq_false k5, cond_false, decide_eq_true k4, cond_true]
   exact r8 _
  ·refine ⟨[], [], [], [], false, nu, S, a, b, F, h1.mono (by omega), by omega, by omega, .nil, .nil, by simp, by simp, fun K => ?_⟩
   rw [yy55]; unfold yy55_b
   rw [decide_eq_false k2, cond_false, decide_eq_false k3, cond_false, decide_eq_false k6, cond_false, decide_eq_false k5, cond_false, decide_eq_false k4, cond_false]
end Go.Ab.T

/- The reference's machine of sets of places comes to an end: is an expression's machine no work? -/
namespace Go.Ab.T
open Go Go.Ab
set_option linter.unusedVariables false
set_option linter.unusedSimpArgs false
theorem placesOf_tot (kf : Nat) (t : Sd) (hn : nod t ≤ 301) (hp : plT t = true) (hk : 4000 ≤ kf) : ∃ (Fi La : List Int) (nr : Bool) (S F : List (List Int)), Pst 100000000 S F ∧ S.length ≤ 301 ∧ In S.length Fi ∧ Fi.length ≤ 301 ∧ La.length ≤ 301 ∧
  ∀ {R : Type} (K : List Int → List Int → Bool → List (List Int) → List (List Int) → Option R), yy52 kf (kd t) (stt t) (kk t) K = K Fi La nr S F := by
 have h0 : cc (2 * nod t) ≤ 100000000 := Nat.le_trans (cc_le (b := 602) (by omega)) (by decide)
 have h1 := cc_le (a := 2 * nod t - 1) (b := 2 * nod t) (by omega)
 obtain ⟨Sr, Fi, La, Fo, nr, nu', S', a', b', F', q1, q2, q3, q4, q5, q6, q7, q8⟩ := of_tot 301 t kf hn (by omega) hp (by omega) 0 false [] [] [] [] ⟨rfl, fun i hi => by simp at hi, fun i hi => by simp at hi⟩ (by simp; omega) (by omega)
 refine ⟨Fi, La, nr, S', F', q1.mono (by omega), by simp at q3; omega, q4, by omega, by omega, fun K => ?_⟩
 unfold yy52 yy52_b
 exact q8 _
structure Sts (M : Nat) (L : List (List Int)) : Prop where
 len : L.length ≤ 41
 row : ∀ u, u < L.length → (L.getD u []).length ≤ 1000
 inn : ∀ u, 0 < u → u < L.length → In M (L.getD u [])
theorem Sts.app {M : Nat} {L : List (List Int)} (h : Sts M L) (hl : L.length ≤ 40) (h0 : 0 < L.length) {x : List Int} (h1 : In M x) (h2 : x.length ≤ 1000) : Sts M (L ++ [x]) := by
 have hg : ∀ u, u < L.length → (L ++ [x]).getD u [] = L.getD u [] := fun u hu => by rw [List.getD_eq_getElem?_getD, List.getElem?_append_left hu, ← List.getD_eq_getElem?_getD]
 have hx : (L ++ [x]).getD L.length [] = x := by rw [List.getD_eq_getElem?_getD, List.getElem?_append_right (Nat.le_refl _), Nat.sub_self]; rfl
 refine ⟨by rw [List.length_append, List.length_singleton]; omega, fun u hu => ?_, fun u h0 hu => ?_⟩ <;> rw [List.length_append, List.length_singleton] at hu <;> by_cases hul : u < L.length
 ·rw [hg u hul]; exact h.row u hul
 ·rw [show u = L.length by omega, hx]; exact h2
 ·rw [hg u hul]; exact h.inn u h0 hul
 ·rw [show u = L.length by omega, hx]; exact h1
theorem s12_tot (kf : Nat) (hkf : 2000 ≤ kf) (most k : Int) (i : Nat) (a3 a4 La : List Int) (a6 : Bool) (a7 a8 : List Int) (L : List (List Int)) (a10 : List Int) (a11 : List (List Int)) (a12 : List Bool) (a13 a14 a15 : List (List Int)) (a16 : List Bool) (hLa : La.length ≤ 301) (hi : i < L.length) (hrow : (L.getD i []).length ≤ 1000) :
  ∀ (m kk j : Nat) (e : Bool), j + m = (L.getD i []).length → m < kk →
  ∃ e' : Bool, ∀ {R : Type} (Ke : Int → Int → Int → Bool → (List Int) → (List Int) → (List Int) → Bool → (List Int) → (List Int) → (List (List Int)) → (List Int) → (List (List Int)) → (List Bool) → (List (List Int)) → (List (List Int)) → (List (List Int)) → (List Bool) → Option R),
   yy57_l12 kf kk most k (i : Int) a3 a4 La a6 a7 a8 L a10 a11 a12 a13 a14 a15 a16 Ke e (j : Int) = Ke most k (i : Int) e' a3 a4 La a6 a7 a8 L a10 a11 a12 a13 a14 a15 a16
 | m, 0, j, e, _, h => by omega
 | 0, kk + 1, j, e, hj, _ => ⟨e, fun Ke => by rw [yy57_l12]; unfold yy57_l12_b; rw [gdl hi, Int.toNat_natCast, lt_f (by omega)]; rfl⟩
 | m + 1, kk + 1, j, e, hj, hk => by
  have hjl : j < (L.getD i []).length := by omega
  cases e with
  | true =>
   obtain ⟨e', h⟩ := s12_tot kf hkf most k i a3 a4 La a6 a7 a8 L a10 a11 a12 a13 a14 a15 a16 hLa hi hrow m kk (j + 1) true (by omega) (by omega)
   refine ⟨e', fun Ke => ?_⟩
   rw [yy57_l12]; unfold yy57_l12_b
   rw [gdl hi, Int.toNat_natCast, lt_t hjl, cond_true, cond_true, wN j (by omega)]
   exact h Ke
  | false =>
   obtain ⟨b, hb⟩ := has_ok9 kf La ((L.getD i []).getD j 0) (by omega) (by omega)
   obtain ⟨e', h⟩ := s12_tot kf hkf most k i a3 a4 La a6 a7 a8 L a10 a11 a12 a13 a14 a15 a16 hLa hi hrow m kk (j + 1) b (by omega) (by omega)
   refine ⟨e', fun Ke => ?_⟩
   rw [yy57_l12]; unfold yy57_l12_b
   rw [gdl hi, Int.toNat_natCast, lt_t hjl, cond_true, cond_false, gdl hi, z0 j, gdt, gdt, Int.toNat_natCast, hb, wN j (by omega)]
   exact h Ke
theorem s16_tot (kf : Nat) (hkf : 100003000 ≤ kf) (n i : Nat) (hn : n ≤ 256) (en : Bool) (a4 Fi La : List Int) (nr : Bool) (by_ C : List Int) (a10 : List (List Int)) (a11 : List Bool) (S F a14 : List (List Int)) (a15 : List Bool) (hS : S.length ≤ 301) (hFi : In S.length Fi) (hFil : Fi.length ≤ 301) (hP : Pst 100000000 S F) (hby : by_.length = n) (hb : ∀ x ∈ by_, ∃ b : Nat, b < 256 ∧ x = (b : Int)) :
  ∀ (m kk j : Nat) (L : List (List Int)) (row : List Int), j + m = n → m < kk → Sts S.length L → i < L.length → row.length ≤ j →
  ∃ (L' : List (List Int)) (row' : List Int), Sts S.length L' ∧ L.length ≤ L'.length ∧ row'.length ≤ n ∧ ∀ {R : Type} (Ke : Int → Int → Int → Bool → (List Int) → (List Int) → (List Int) → Bool → (List Int) → (List Int) → (List (List Int)) → (List Int) → (List (List Int)) → (List Bool) → (List (List Int)) → (List (List Int)) → (List (List Int)) → (List Bool) → Option R),
   yy57_l16 kf kk 40 (n : Int) (i : Int) en a4 Fi La nr by_ C a10 a11 S F a14 a15 Ke (j : Int) L row = Ke 40 (n : Int) (i : Int) en a4 Fi La nr by_ C L' row' a10 a11 S F a14 a15
 | m, 0, j, L, row, _, h, _, _, _ => by omega
 | 0, kk + 1, j, L, row, hj, _, h1, h2, h3 => ⟨L, row, h1, Nat.le_refl _, by omega, fun Ke => by rw [yy57_l16]; unfold yy57_l16_b; rw [lt_f (by omega)]; rfl⟩
 | m + 1, kk + 1, j, L, row, hj, hk, h1, h2, h3 => by
  have hjn : j < n := by omega
  by_cases h40 : L.length ≤ 40
  ·obtain ⟨b, b1, b2⟩ := hb _ (getD_mem by_ j (by omega) 0)
   obtain ⟨r, r1, r2, r3⟩ := step_ok9 kf 100000000 (by omega) (by omega) S (by omega) Fi La hFi (by omega) F hP.rw hP.fl nr (L.getD i []) (decide ((i : Int) = 0)) b b1 (h1.row i h2) (fun q => h1.inn i (by have := of_decide_eq_false q; omega) h2)
   obtain ⟨u, hu⟩ := find_ok9 kf L r (by omega) (fun v hv => h1.row v hv) (by omega)
   obtain ⟨L1, hL1⟩ : ∃ L1, L1 = if u < 0 then L ++ [r] else L := ⟨_, rfl⟩
   have hst : Sts S.length L1 ∧ L.length ≤ L1.length := by
    rw [hL1]; split
    ·exact ⟨h1.app h40 (by omega) r1 (by omega), by simp⟩
    ·exact ⟨h1, Nat.le_refl _⟩
   obtain ⟨x, hx⟩ : ∃ x, x = if u < 0 then (L.length : Int) else u := ⟨_, rfl⟩
   obtain ⟨L', row', q1, q2, q3, q4⟩ := s16_tot kf hkf n i hn en a4 Fi La nr by_ C a10 a11 S F a14 a15 hS hFi hFil hP hby hb m kk (j + 1) L1 (row ++ [x]) (by omega) (by omega) hst.1 (by omega) (by rw [List.length_append, List.length_singleton]; omega)
   refine ⟨L', row', q1, by omega, q3, fun Ke => ?_⟩
   rw [yy57_l16]; unfold yy57_l16_b
   rw [lt_t hjn, cond_true, decide_eq_true (show (L.length : Int) ≤ 40 by omega), cond_true, gdl h2, gdl (by omega : j < by_.length), Int.toNat_natCast, Int.toNat_natCast, b2, r3, hu, wN j (by omega)]
   by_cases hu0 : u < 0
   ·rw [if_pos hu0] at hL1 hx
    rw [hL1, hx] at q4
    dsimp only
    rw [decide_eq_true hu0, cond_true, gds (by simp; omega), gds (by simp; omega)]
    exact q4 Ke
   ·rw [if_neg hu0] at hL1 hx
    rw [hL1, hx] at q4
    dsimp only
    rw [decide_eq_false hu0, cond_false, gds (by simp; omega)]
    exact q4 Ke
  ·exact ⟨L, row, h1, Nat.le_refl _, by omega, fun Ke => by rw [yy57_l16]; unfold yy57_l16_b; rw [lt_t hjn, cond_true, decide_eq_false (show ¬ (L.length : Int) ≤ 40 by omega), cond_false]⟩
theorem s7_tot (kf : Nat) (hkf : 100003000 ≤ kf) (n : Nat) (hn : n ≤ 256) (a4 Fi La : List Int) (nr : Bool) (by_ C : List Int) (a11 : List (List Int)) (a12 : List Bool) (S F : List (List Int)) (hS : S.length ≤ 301) (hFi : In S.length Fi) (hFil : Fi.length ≤ 301) (hLa : La.length ≤ 301) (hP : Pst 100000000 S F) (hby : by_.length = n) (hb : ∀ x ∈ by_, ∃ b : Nat, b < 256 ∧ x = (b : Int)) :
  ∀ (m kk i : Nat) (L : List (List Int)) (nx : List (List Int)) (es : List Bool), i + m = 42 → m + 2000 < kk → Sts S.length L → nx.length ≤ i → es.length ≤ i →
  ∃ (L' nx' : List (List Int)) (es' : List Bool), ∀ {R : Type} (Ke : Int → (List Int) → (List Int) → (List (List Int)) → (List (List Int)) → (List Bool) → (List (List Int)) → (List Bool) → Option R),
   yy57_l7 kf kk Ke 40 (n : Int) (i : Int) a4 Fi La nr by_ C L a11 a12 S F nx es = Ke 40 a4 C L' a11 a12 nx' es'
 | m, 0, i, L, nx, es, _, h, _, _, _ => by omega
 | 0, kk + 1, i, L, nx, es, hi, _, h1, _, _ => ⟨L, nx, es, fun Ke => by have := h1.len; rw [yy57_l7]; unfold yy57_l7_b; rw [lt_f (by omega)]; rfl⟩
 | m + 1, kk + 1, i, L, nx, es, hi, hk, h1, h2, h3 => by
  have hlen := h1.len
  by_cases hil : i < L.length
  rotate_left
  ·exact ⟨L, nx, es, fun Ke => by rw [yy57_l7]; unfold yy57_l7_b; rw [lt_f (by omega)]; rfl⟩
  by_cases h40 : L.length ≤ 40
  rotate_left
  ·exact ⟨L, nx, es, fun Ke => by rw [yy57_l7]; unfold yy57_l7_b; rw [lt_t hil, cond_true, decide_eq_false (show ¬ (L.length : Int) ≤ 40 by omega), cond_false]⟩
  have hrow := h1.row i hil
  obtain ⟨e0, he0⟩ : ∃ e0 : Bool, e0 = if (i : Int) = 0 then nr else false := ⟨_, rfl⟩
  obtain ⟨e1, hE⟩ := s12_tot kf (by omega) 40 (n : Int) i a4 Fi La nr by_ C L [] a11 a12 S F nx es hLa hil hrow (L.getD i []).length kk 0 e0 (by omega) (by omega)
  obtain ⟨L1, row, q1, q2, q3, q4⟩ := s16_tot kf hkf n i hn e1 a4 Fi La nr by_ C a11 a12 S F nx es hS hFi hFil hP hby hb n kk 0 L [] (by omega) (by omega) h1 hil (Nat.le_refl _)
  obtain ⟨L', nx', es', r⟩ := s7_tot kf hkf n hn a4 Fi La nr by_ C a11 a12 S F hS hFi hFil hLa hP hby hb m kk (i + 1) L1 (nx ++ [row]) (es ++ [e1]) (by omega) (by omega) q1 (by rw [List.length_append, List.length_singleton]; omega) (by rw [List.length_append, List.length_singleton]; omega)
  refine ⟨L', nx', es', fun Ke => ?_⟩
  rw [yy57_l7]; unfold yy57_l7_b
  rw [lt_t hil, cond_true, decide_eq_true (show (L.length : Int) ≤ 40 by omega), cond_true]
  have body : ∀ {R : Type} (Ke : Int → (List Int) → (List Int) → (List (List Int)) → (List (List Int)) → (List Bool) → (List (List Int)) → (List Bool) → Option R),
    yy57_l12 kf kk 40 (n : Int) (i : Int) a4 Fi La nr by_ C L [] a11 a12 S F nx es (fun v50 v51 v52 v53 v54 v55 v56 v57 v58 v59 v60 v61 v62 v63 v64 v65 v66 v67 =>
     yy57_l16 kf kk v50 v51 v52 v53 v54 v55 v56 v57 v58 v59 v62 v63 v64 v65 v66 v67 (fun v92 v93 v94 v95 v96 v97 v98 v99 v100 v101 v102 v103 v104 v105 v106 v107 v108 v109 =>
      gd (decide (v108.length + ([v103] : List (List Int)).length < SMALL)) (gd (decide (v109.length + ([v95] : List Bool).length < SMALL))
       (yy57_l7 kf kk Ke v92 v93 (IntKind.i64.wrap (v94 + 1)) v96 v97 v98 v99 v100 v101 v102 v104 v105 v106 v107 (v108 ++ ([v103] : List (List Int))) (v109 ++ ([v95] : List Bool))))) 0 v60 v61) e0 0 = Ke 40 a4 C L' a11 a12 nx' es' := fun Ke => by
   refine (hE _).trans ?_
   refine (q4 _).trans ?_
   rw [gds (by simp; omega), gds (by simp; omega), wN i (by omega)]
   exact r Ke
  by_cases hi0 : (i : Int) = 0
  ·rw [if_pos hi0] at he0
   rw [decide_eq_true hi0, cond_true]
   rw [he0] at body
   exact body Ke
  ·rw [if_neg hi0] at he0
   rw [decide_eq_false hi0, cond_false]
   rw [he0] at body
   exact body Ke
theorem sets_tot (kf : Nat) (hkf : 100003000 ≤ kf) (t : Sd) (hn : nod t ≤ 301) (hp : plT t = true) : ∃ (a : List Int) (b : Int) (c : List (List Int)) (d : List Bool), ∀ {R : Type} (K : List Int → Int → List (List Int) → List Bool → Option R), yy57 kf (kd t) (stt t) (kk t) 40 K = K a b c d := by
 obtain ⟨Fi, La, nr, S, F, q1, q2, q3, q4, q5, q6⟩ := placesOf_tot kf t hn hp (by omega)
 obtain ⟨C, n, c1, c2, c3, c4⟩ := classes_tot kf (by omega) S (by omega)
 obtain ⟨by_, f1, f2, f3⟩ := first_ok9 kf (by omega) C n c2 c3
 obtain ⟨L', nx', es', r⟩ := s7_tot kf hkf n c2 (List.replicate 256 (0 : Int)) Fi La nr by_ C [] [] S F q2 q3 q4 q5 q1 f1 f2 42 kf 0 [[-1]] [] [] (by omega) (by omega)
  ⟨by simp, fun u hu => (by (have : u = 0 := by simpa using hu); subst this; simp), fun u h0 hu => (by (have : u = 0 := by simpa using hu); omega)⟩ (by simp) (by simp)
 by_cases h : (40 : Int) < (L'.length : Int)
 ·refine ⟨List.replicate 256 (0 : Int), 7, [], [], fun K => ?_⟩
  unfold yy57 yy57_b
  refine (q6 _).trans ((c4 _).trans ((f3 _).trans ((r _).trans ?_)))
  rw [decide_eq_true h, cond_true]
 ·refine ⟨C, 0, nx', es', fun K => ?_⟩
  unfold yy57 yy57_b
  refine (q6 _).trans ((c4 _).trans ((f3 _).trans ((r _).trans ?_)))
  rw [decide_eq_false h, cond_false]
theorem nodes_tot : ∀ (n : Nat) (t : Sd) (kf : Nat), nod t ≤ n → n ≤ 1000 → n + 1000 ≤ kf → ∃ v : Int, ∀ {R : Type} (K : Int → Option R), yy38 kf (kd t) (stt t) (kk t) K = K v
 | 0, t, kf, h, _, _ => by have := nod_pos t; omega
 | n + 1, t, 0, _, _, h => by omega
 | n + 1, t, kf + 1, hn, hn1, hk => by
  have hnd := nod_eq t
  have hkl := nodL_len (kk t)
  have ih : ∀ x ∈ kk t, ∃ v : Int, ∀ {R : Type} (K : Int → Option R), yy38 kf (kd x) (stt x) (kk x) K = K v := fun x hx => nodes_tot n x kf (by have := nod_kid hx; omega) (by omega) (by omega)
  have loop : ∀ (m kk' i : Nat) (a : Int), i + m = (kk t).length → m < kk' → ∃ v : Int, ∀ {R : Type} (Ke : Int → Option R), yy38_l3 (yy38 kf) kf kk' (kk t) Ke a (i : Int) = Ke v := by
   intro m
   induction m with
   | zero =>
    intro kk' i a hi hk'
    obtain ⟨k, rfl⟩ : ∃ k, kk' = k + 1 := ⟨kk' - 1, by omega⟩
    exact ⟨a, fun Ke => by rw [yy38_l3]; unfold yy38_l3_b; rw [lt_f (by omega)]; rfl⟩
   | succ m ihm =>
    intro kk' i a hi hk'
    obtain ⟨k, rfl⟩ : ∃ k, kk' = k + 1 := ⟨kk' - 1, by omega⟩
    have hil : i < (kk t).length := by omega
    obtain ⟨v, hv⟩ := ih _ (List.getElem_mem hil)
    obtain ⟨w, hw⟩ := ihm k (i + 1) (IntKind.i64.wrap (a + v)) (by omega) (by omega)
    refine ⟨w, fun Ke => ?_⟩
    rw [yy38_l3]; unfold yy38_l3_b
    rw [lt_t hil, cond_true, z0 i, gdt, gdt, Int.toNat_natCast, getD_el hil]
    refine (hv _).trans ?_
    rw [wN i (by omega)]
    exact hw Ke
  obtain ⟨v, hv⟩ := loop (kk t).length kf 0 1 (by omega) (by omega)
  exact ⟨v, fun K => by rw [yy38]; unfold yy38_b; exact hv _⟩
theorem depth_tot : ∀ (n : Nat) (t : Sd) (kf : Nat), nod t ≤ n → n ≤ 1000 → n + 1000 ≤ kf → ∃ v : Int, ∀ {R : Type} (K : Int → Option R), yy34 kf (kd t) (stt t) (kk t) K = K v
 | 0, t, kf, h, _, _ => by have := nod_pos t; omega
 | n + 1, t, 0, _, _, h => by omega
 | n + 1, t, kf + 1, hn, hn1, hk => by
  have hnd := nod_eq t
  have hkl := nodL_len (kk t)
  have ih : ∀ x ∈ kk t, ∃ v : Int, ∀ {R : Type} (K : Int → Option R), yy34 kf (kd x) (stt x) (kk x) K = K v := fun x hx => depth_tot n x kf (by have := nod_kid hx; omega) (by omega) (by omega)
  have loop : ∀ (m kk' i : Nat) (a : Int), i + m = (kk t).length → m < kk' → ∃ v : Int, ∀ {R : Type} (Ke : Int → Option R), yy34_l3 (yy34 kf) kf kk' (kk t) Ke a (i : Int) = Ke v := by
   intro m
   induction m with
   | zero =>
    intro kk' i a hi hk'
    obtain ⟨k, rfl⟩ : ∃ k, kk' = k + 1 := ⟨kk' - 1, by omega⟩
    exact ⟨a, fun Ke => by rw [yy34_l3]; unfold yy34_l3_b; rw [lt_f (by omega)]; rfl⟩
   | succ m ihm =>
    intro kk' i a hi hk'
    obtain ⟨k, rfl⟩ : ∃ k, kk' = k + 1 := ⟨kk' - 1, by omega⟩
    have hil : i < (kk t).length := by omega
    obtain ⟨v, hv⟩ := ih _ (List.getElem_mem hil)
    obtain ⟨w, hw⟩ := ihm k (i + 1) (mx a v) (by omega) (by omega)
    refine ⟨w, fun Ke => ?_⟩
    rw [yy34_l3]; unfold yy34_l3_b
    rw [lt_t hil, cond_true, z0 i, gdt, gdt, Int.toNat_natCast, getD_el hil]
    refine (hv _).trans ?_
    rw [wN i (by omega)]
    exact hw Ke
  obtain ⟨v, hv⟩ := loop (kk t).length kf 0 0 (by omega) (by omega)
  exact ⟨IntKind.i64.wrap (v + 1), fun K => by rw [yy34]; unfold yy34_b; exact hv _⟩
theorem light_tot (kf : Nat) (hkf : 100003000 ≤ kf) (t : Sd) (hn : nod t ≤ 301) (hp : plT t = true) (hf : Fit 301 t) : ∃ b : Bool, ∀ {R : Type} (K : Bool → Option R), yy51 kf (kd t) (stt t) (kk t) 40 K = K b := by
 obtain ⟨a, b, c, d, h⟩ := sets_tot kf hkf t hn hp
 obtain ⟨v, hv⟩ := nodes_tot 301 t kf hn (by omega) (by omega)
 obtain ⟨w, hw⟩ := depth_tot 301 t kf hn (by omega) (by omega)
 have hpl : ∀ {R : Type} (K : Bool → Option R), yy40 kf (kd t) (stt t) (kk t) K = K (plT t) := fun K => rplain_ok 301 t kf hf (by omega) (by omega) K
 have hmay : ∃ m : Int, ∀ {R : Type} (K : Int → Option R), yy37 kf (kd t) (stt t) (kk t) K = K m := by
  by_cases h1 : 400 < v
  ·exact ⟨4, fun K => by unfold yy37 yy37_b; refine (hv _).trans ?_; rw [decide_eq_true h1, cond_true]⟩
  by_cases h2 : 30 < w
  ·exact ⟨5, fun K => by unfold yy37 yy37_b; refine (hv _).trans ?_; rw [decide_eq_false h1, cond_false]; refine (hw _).trans ?_; rw [decide_eq_true h2, cond_true]⟩
  ·exact ⟨0, fun K => by unfold yy37 yy37_b; refine (hv _).trans ?_; rw [decide_eq_false h1, cond_false]; refine (hw _).trans ?_; rw [decide_eq_false h2, cond_false]; refine (hpl _).trans ?_; rw [hp]; rfl⟩
 obtain ⟨m, hm⟩ := hmay
 by_cases h0 : m = 0
 ·exact ⟨decide (b = 0), fun K => by unfold yy51 yy51_b; refine (h _).trans ((hm _).trans ?_); rw [decide_eq_true h0, cond_true]⟩
 ·exact ⟨false, fun K => by unfold yy51 yy51_b; refine (h _).trans ((hm _).trans ?_); rw [decide_eq_false h0, cond_false]⟩
end Go.Ab.T

/- What is made out of numbers: texts, words, names, commands. -/
namespace Go.Ab.T
open Go Go.Ab
set_option linter.unusedVariables false
set_option linter.unusedSimpArgs false
theorem hex_isB (i : Nat) : 0 ≤ HEX.getD i 0 ∧ HEX.getD i 0 ≤ 255 := by
 by_cases h : i < HEX.length
 ·exact (show ∀ x ∈ HEX, 0 ≤ x ∧ x ≤ 255 by decide) _ (getD_mem HEX i h 0)
 ·rw [List.getD_eq_getElem?_getD, List.getElem?_eq_none (by omega)]; exact ⟨by decide, by decide⟩
theorem isB_one {a : Int} (h : 0 ≤ a ∧ a ≤ 255) : isBw [a] := fun x hx => by rw [List.mem_singleton.1 hx]; exact h
theorem bw_nil : isBw [] := fun x hx => by cases hx
theorem isB_cons {a : Int} {l : List Int} (h : 0 ≤ a ∧ a ≤ 255) (hl : isBw l) : isBw (a :: l) := fun x hx => by
 rcases List.mem_cons.1 hx with rfl | hx
 ·exact h
 ·exact hl x hx
theorem sign_isB {c : Int} (h : 0 ≤ c ∧ c ≤ 255) : isBw (signT c) := by
 unfold signT
 split
 ·exact isB_cons (by decide) (isB_one h)
 split
 ·exact isB_one h
 ·exact isB_cons (by decide) (isB_cons (by decide) (isB_cons (hex_isB _) (isB_one (hex_isB _))))
theorem getD_isB {l : List Int} (h : isBw l) (i : Nat) : 0 ≤ l.getD i 0 ∧ l.getD i 0 ≤ 255 := by
 by_cases hi : i < l.length
 ·exact h _ (getD_mem l i hi 0)
 ·rw [List.getD_eq_getElem?_getD, List.getElem?_eq_none (by omega)]; exact ⟨by decide, by decide⟩
theorem piece_isB {l : List Int} (h : isBw l) (i k : Nat) : isBw (pieceT l i k) := by
 have h1 := sign_isB (getD_isB h i)
 have h2 := sign_isB (getD_isB h k)
 unfold pieceT
 refine isB_app h1 (isB_app ?_ ?_) <;> split
 all_goals first | exact bw_nil | exact isB_one (by decide) | exact h2
theorem runs_isB {l : List Int} (h : isBw l) : ∀ (m i : Nat), isBw (runsT l m i)
 | 0, i => bw_nil
 | m + 1, i => by
  unfold runsT
  split
  ·exact isB_app (piece_isB h _ _) (runs_isB h m _)
  ·exact bw_nil
theorem set_isB (s : List Int) : isBw (setT s) := by
 have h : isBw (listOf (mem s)) := listOf_isB _
 unfold setT
 split
 ·exact isB_one (by decide)
 split
 ·exact sign_isB (getD_isB h 0)
 ·exact isB_cons (by decide) (isB_app (runs_isB h _ _) (isB_one (by decide)))
theorem text_isB : ∀ (n : Nat) (t : Sd), dep t ≤ n → isBw (textT t)
 | 0, t, h => by have := dep_pos t; omega
 | n + 1, t, h => by
  have kids : ∀ x ∈ kk t, isBw (textT x) := fun x hx => text_isB n x (by have := dep_kid hx; omega)
  have hcat : ∀ l : List Sd, (∀ x ∈ l, isBw (textT x)) → isBw (catX l) ∧ ∀ f, isBw (altX f l) := by
   intro l
   induction l with
   | nil => intro _; exact ⟨by simp only [catX]; exact bw_nil, fun f => by simp only [altX]; exact bw_nil⟩
   | cons x r ih =>
    intro hl
    obtain ⟨i1, i2⟩ := ih fun y hy => hl y (List.mem_cons_of_mem _ hy)
    have hx := hl x List.mem_cons_self
    refine ⟨?_, fun f => ?_⟩
    ·simp only [catX]
     refine isB_app ?_ i1
     split
     ·exact isB_app (isB_one (by decide)) (isB_app hx (isB_one (by decide)))
     ·exact hx
    ·simp only [altX]
     refine isB_app ?_ (isB_app ?_ (i2 false))
     ·split
      ·exact bw_nil
      ·exact isB_one (by decide)
     ·split
      ·exact bw_nil
      ·exact hx
  rw [textT_eq]
  split
  ·exact isB_cons (by decide) (isB_one (by decide))
  split
  ·exact isB_cons (by decide) (isB_one (by decide))
  split
  ·exact set_isB _
  split
  ·cases hk : kk t with
   | nil => simp only [starX]; exact bw_nil
   | cons x r =>
    have hx := kids x (by rw [hk]; exact List.mem_cons_self)
    simp only [starX]
    refine isB_app ?_ (isB_one (by decide))
    split
    ·exact isB_app (isB_one (by decide)) (isB_app hx (isB_one (by decide)))
    ·exact hx
  split
  ·exact (hcat _ kids).1
  ·exact (hcat _ kids).2 true
section
variable {R : Type}
theorem text_tot (kf : Nat) (hkf : 100010000 ≤ kf) (l : List Int) (hl : ∀ x ∈ l, 0 ≤ x ∧ x ≤ 255) (hll : l.length ≤ 150) (p : Nat) (hp : p ≤ l.length) :
  ∃ (s : List Int) (p' : Nat), isBw s ∧ s.length ≤ 200 ∧ p ≤ p' ∧ p' ≤ l.length ∧ ∀ K : List Int → List Int → Int → Option R, yy12 kf l (p : Int) K = K s l (p' : Int) := by
 obtain ⟨t, p', h1, h2, g, hK⟩ := prx (R := R) l hl hll 9 0 kf p (by omega) (by omega) hp
 have hnd := g.nd
 have hn : nod t ≤ 301 := by omega
 have hf : Fit 301 t := ⟨by have := dep_nod _ t (Nat.le_refl _); omega, by omega, g.sk⟩
 obtain ⟨b, hb⟩ := light_tot kf (by omega) t hn g.pl hf
 have hS : isBw (showT t) := by
  unfold showT
  split
  ·exact text_isB _ t (Nat.le_refl _)
  ·exact bw_nil
 have ha : isBw [97] := isB_one (by decide)
 have step : ∀ K : List Int → List Int → Int → Option R, yy12 kf l (p : Int) K = (bif decide (200 < ((showT t).length : Int)) then K [97] l (p' : Int) else bif (!b) then K [97] l (p' : Int) else K (showT t) l (p' : Int)) := fun K => by
  unfold yy12 yy12_b yy10 yy10_b
  refine (hK _).trans ?_
  refine (rshow_ok 301 t kf hf (by omega) (by omega) _).trans ?_
  dsimp only
  cases decide (200 < ((showT t).length : Int)) with
  | true => rfl
  | false =>
   rw [cond_false, cond_false]
   exact hb _
 by_cases h200 : 200 < ((showT t).length : Int)
 ·exact ⟨[97], p', ha, by simp, h1, h2, fun K => by rw [step, decide_eq_true h200, cond_true]⟩
 ·cases b with
  | true => exact ⟨showT t, p', hS, by omega, h1, h2, fun K => by rw [step, decide_eq_false h200]; rfl⟩
  | false => exact ⟨[97], p', ha, by simp, h1, h2, fun K => by rw [step, decide_eq_false h200]; rfl⟩
def NAMES : List (List Int) := [[97], [98], [99], [100], [97, 98], [98, 46, 49], [122, 45, 57], [], [49, 97], [97, 98, 99, 100, 101, 102, 103, 104, 105, 106, 107, 108, 109, 110], [97, 98, 99, 100, 101, 102, 103, 104, 105, 106, 107, 108, 109, 110, 111]]
theorem names_at : ∀ t : Nat, t < 14 → ((0 ≤ Int.tmod (mn (t : Int) 10) 11) ∧ (Int.tmod (mn (t : Int) 10) 11 < 11)) ∧ (∀ x ∈ NAMES.getD (Int.toNat (Int.tmod (mn (t : Int) 10) 11)) [], 0 ≤ x ∧ x ≤ 255) ∧ (NAMES.getD (Int.toNat (Int.tmod (mn (t : Int) 10) 11)) []).length ≤ 20 := by decide
theorem name_tot (l : List Int) (hl : ∀ x ∈ l, 0 ≤ x ∧ x ≤ 255) (hll : l.length ≤ 150) (p : Nat) (hp : p ≤ l.length) :
  ∃ (s : List Int) (p' : Nat), isBw s ∧ s.length ≤ 20 ∧ p ≤ p' ∧ p' ≤ l.length ∧ ∀ K : List Int → List Int → Int → Option R, yy9 l (p : Int) K = K s l (p' : Int) := by
 obtain ⟨t, p1, ht, a1, a2, _, _, hK⟩ := pnum (R := R) 14 (by omega) l hl (by omega) p hp
 obtain ⟨⟨n1, n2⟩, n3, n4⟩ := names_at t ht
 refine ⟨_, p1, n3, n4, a1, a2, fun K => ?_⟩
 unfold yy9 yy9_b
 refine (hK _).trans ?_
 rw [decide_eq_true n1, gdt]
 have : decide (Int.tmod (mn (t : Int) 10) 11 < (NAMES.length : Int)) = true := decide_eq_true n2
 exact gd_true this _
theorem word_tot (kf : Nat) (l : List Int) (hl : ∀ x ∈ l, 0 ≤ x ∧ x ≤ 255) (hll : l.length ≤ 150) : ∀ (m kk p : Nat) (w : List Int), m < kk → p ≤ l.length → isBw w → w.length + m ≤ 100 →
  ∃ (w' : List Int) (p' : Nat), isBw w' ∧ w'.length ≤ w.length + m ∧ p ≤ p' ∧ p' ≤ l.length ∧ ∀ Ke : List Int → Int → List Int → Option R, yy13_l3 kf kk Ke (m : Int) l (p : Int) w = Ke l (p' : Int) w'
 | m, 0, p, w, h, _, _, _ => by omega
 | 0, kk + 1, p, w, _, hp, hw, _ => ⟨w, p, hw, by omega, by omega, hp, fun Ke => by rw [yy13_l3]; unfold yy13_l3_b; rfl⟩
 | m + 1, kk + 1, p, w, h, hp, hw, hwl => by
  obtain ⟨t, p1, ht, a1, a2, _, _, hK⟩ := pnum (R := R) 8 (by omega) l hl (by omega) p hp
  have e0 : decide ((0 : Int) < ((m + 1 : Nat) : Int)) = true := decide_eq_true (by omega)
  have e1 : IntKind.i64.wrap (((m + 1 : Nat) : Int) - 1) = (m : Int) := by rw [IntKind.wrap_i64]; omega
  have u8b : ∀ x : Int, 0 ≤ IntKind.u8.wrap x ∧ IntKind.u8.wrap x ≤ 255 := fun x => by rw [IntKind.wrap_u8]; omega
  by_cases h0 : t = 0
  ·obtain ⟨u, p2, hu, b1, b2, _, _, hK2⟩ := pnum (R := R) 256 (by omega) l hl (by omega) p1 a2
   obtain ⟨w', p', q1, q2, q3, q4, q5⟩ := word_tot kf l hl hll m kk p2 (w ++ [IntKind.u8.wrap (u : Int)]) (by omega) b2 (isB_app hw (isB_one (u8b _))) (by rw [List.length_append, List.length_singleton]; omega)
   rw [List.length_append, List.length_singleton] at q2
   refine ⟨w', p', q1, by omega, by omega, q4, fun Ke => ?_⟩
   rw [yy13_l3]; unfold yy13_l3_b
   rw [e0, cond_true]
   refine (hK _).trans ?_
   rw [decide_eq_true (show (t : Int) = 0 by omega), cond_true]
   refine (hK2 _).trans ?_
   rw [gds (by simp; omega), e1]
   exact q5 Ke
  ·obtain ⟨u, p2, hu, b1, b2, _, _, hK2⟩ := pnum (R := R) 4 (by omega) l hl (by omega) p1 a2
   obtain ⟨w', p', q1, q2, q3, q4, q5⟩ := word_tot kf l hl hll m kk p2 (w ++ [IntKind.u8.wrap (IntKind.i64.wrap (97 + (u : Int)))]) (by omega) b2 (isB_app hw (isB_one (u8b _))) (by rw [List.length_append, List.length_singleton]; omega)
   rw [List.length_append, List.length_singleton] at q2
   refine ⟨w', p', q1, by omega, by omega, q4, fun Ke => ?_⟩
   rw [yy13_l3]; unfold yy13_l3_b
   rw [e0, cond_true]
   refine (hK _).trans ?_
   rw [decide_eq_false (show ¬ (t : Int) = 0 by omega), cond_false]
   refine (hK2 _).trans ?_
   rw [gds (by simp; omega), e1]
   exact q5 Ke
theorem word_ok9 (kf : Nat) (hkf : 1000 ≤ kf) (l : List Int) (hl : ∀ x ∈ l, 0 ≤ x ∧ x ≤ 255) (hll : l.length ≤ 150) (p : Nat) (hp : p ≤ l.length) :
  ∃ (w : List Int) (p' : Nat), isBw w ∧ w.length ≤ 20 ∧ p ≤ p' ∧ p' ≤ l.length ∧ ∀ K : List Int → Int → List Int → Option R, yy13 kf 6 l (p : Int) K = K l (p' : Int) w := by
 obtain ⟨t, p1, ht, a1, a2, _, _, hK⟩ := pnum (R := R) 7 (by omega) l hl (by omega) p hp
 obtain ⟨w', p', q1, q2, q3, q4, q5⟩ := word_tot (R := R) kf l hl hll t kf p1 [] (by omega) a2 bw_nil (by simp; omega)
 simp only [List.length_nil] at q2
 refine ⟨w', p', q1, by omega, by omega, q4, fun K => ?_⟩
 unfold yy13 yy13_b
 refine (hK _).trans ?_
 exact q5 _
noncomputable def cbody (kf : Nat) (K : Int → List Int → List Int → List Int → Int → Int → List Int → Int → List Int → List (Rose Lb) → Option R) (v8 : Int) (v9 : List Int) (v10 : Int) : Option R :=
    (let j94 : (List Int) → Int → (List Int) → Option R := fun v11 v12 v13 =>
    (let j93 : Bool → Option R := fun v14 =>
     (bif v14 then
     (yy12 kf v11 v12 (fun (v15 : (List Int)) (v16 : (List Int)) (v17 : Int) =>
      yy15 12 v16 v17 (fun (v18 : Int) (v19 : (List Int)) (v20 : Int) =>
       bif decide (v18 = 0) then
       (yy15 5 v19 v20 (fun (v21 : Int) (v22 : (List Int)) (v23 : Int) =>
        gd (decide (0 ≤ v21))
        (gd (decide (v21 < (([[41], [40], [42], [91, 98, 45, 97, 93], [97, 124]] : List (List Int)).length : Int)))
        (gd (decide (v15.length + (([[41], [40], [42], [91, 98, 45, 97, 93], [97, 124]] : List (List Int)).getD (Int.toNat v21) ([] : List Int)).length < SMALL))
         (K v8 v13 ([]) (v15 ++ (([[41], [40], [42], [91, 98, 45, 97, 93], [97, 124]] : List (List Int)).getD (Int.toNat v21) ([] : List Int))) 0 0 v22 v23 ([] : List Int) ([] : List (Rose (Int × ((List Int) × ((List Int) × ((List Int) × (Int × ((List Int) × (Int × Unit))))))))))))))
       else (K v8 v13 ([]) v15 0 0 v19 v20 ([] : List Int) ([] : List (Rose (Int × ((List Int) × ((List Int) × ((List Int) × (Int × ((List Int) × (Int × Unit)))))))))))))
     else (bif decide (v8 = 4) then
      (yy15 6 v11 v12 (fun (v24 : Int) (v25 : (List Int)) (v26 : Int) =>
       let j33 : Bool → (List Int) → Int → Option R := fun v27 v28 v29 =>
       (bif v27 then
       (yy9 v28 v29 (fun (v30 : (List Int)) (v31 : (List Int)) (v32 : Int) =>
        K v8 v13 v30 ([]) (IntKind.i64.wrap (1 + v24)) 0 v31 v32 ([] : List Int) ([] : List (Rose (Int × ((List Int) × ((List Int) × ((List Int) × (Int × ((List Int) × (Int × Unit)))))))))))
       else (K v8 v13 ([]) ([]) (IntKind.i64.wrap (1 + v24)) 0 v28 v29 ([] : List Int) ([] : List (Rose (Int × ((List Int) × ((List Int) × ((List Int) × (Int × ((List Int) × (Int × Unit)))))))))))
       (bif decide ((IntKind.i64.wrap (1 + v24)) ≤ 3) then
       (j33 true v25 v26)
       else (yy15 9 v25 v26 (fun (v34 : Int) (v35 : (List Int)) (v36 : Int) =>
        j33 (decide (v34 = 0)) v35 v36)))))
      else (bif decide (v8 = 5) then
      (yy13 kf 6 v11 v12 (fun (v37 : (List Int)) (v38 : Int) (v39 : (List Int)) =>
       K v8 v13 ([]) ([]) 0 0 v37 v38 v39 ([] : List (Rose (Int × ((List Int) × ((List Int) × ((List Int) × (Int × ((List Int) × (Int × Unit)))))))))))
      else (bif decide (v8 = 7) then
       (yy15 9 v11 v12 (fun (v40 : Int) (v41 : (List Int)) (v42 : Int) =>
        K v8 v13 ([]) ([]) 0 v40 v41 v42 ([] : List Int) ([] : List (Rose (Int × ((List Int) × ((List Int) × ((List Int) × (Int × ((List Int) × (Int × Unit)))))))))))
       else (bif decide (v8 = 8) then
       (yy15 4 v11 v12 (fun (v43 : Int) (v44 : (List Int)) (v45 : Int) =>
        yy14_l24 (yy14 kf) kf kf 0 ([]) ([]) ([]) 0 0 v8 v13 ([]) ([]) 0 0 ([] : List Int) ([] : List (Rose (Int × ((List Int) × ((List Int) × ((List Int) × (Int × ((List Int) × (Int × Unit))))))))) ([] : List Int)
        (fun (v75 : (List Int)) (v76 : Int) (v77 : Int) (v78 : (List Int)) (v79 : (List Int)) (v80 : (List Int)) (v81 : Int) (v82 : Int) (v83 : Int) (v84 : (List Int)) (v85 : (List Int)) (v86 : (List Int)) (v87 : Int) (v88 : Int) (v89 : (List Int)) (v90 : (List (Rose (Int × ((List Int) × ((List Int) × ((List Int) × (Int × ((List Int) × (Int × Unit)))))))))) (v91 : (List Int)) (v92 : (List (Rose (Int × ((List Int) × ((List Int) × ((List Int) × (Int × ((List Int) × (Int × Unit)))))))))) =>
         K v83 v84 v85 v86 v87 v88 v75 v76 v91 v92) v43 v44 v45 ([] : List (Rose (Int × ((List Int) × ((List Int) × ((List Int) × (Int × ((List Int) × (Int × Unit)))))))))))
       else (K v8 v13 ([]) ([]) 0 0 v11 v12 ([] : List Int) ([] : List (Rose (Int × ((List Int) × ((List Int) × ((List Int) × (Int × ((List Int) × (Int × Unit)))))))))))))))
     (bif decide (v8 = 1) then
     (j93 (decide (v8 = 1)))
     else (j93 (decide (v8 = 2)))))
    (bif (!(decide (v8 = 8))) then
     (yy9 v9 v10 (fun (v95 : (List Int)) (v96 : (List Int)) (v97 : Int) =>
      j94 v96 v97 v95))
     else (j94 v9 v10 ([]))))
noncomputable def KINDS : List Int := [1, 1, 1, 2, 3, 4, 4, 4, 5, 6, 7, 8]
theorem cmd_eq (kf : Nat) (part : Bool) (l : List Int) (p : Int) (K : Int → List Int → List Int → List Int → Int → Int → List Int → Int → List Int → List (Rose Lb) → Option R) : yy14 (kf + 1) part l p K = yy15 12 l p (fun v4 v5 v6 => gd (decide (0 ≤ v4)) (gd (decide (v4 < (KINDS.length : Int)))
  (bif part then yy15 5 v5 v6 (fun v99 v100 v101 => gd (decide (0 ≤ v99)) (gd (decide (v99 < (KINDS.length : Int))) (cbody kf K (KINDS.getD (Int.toNat v99) 0) v100 v101))) else cbody kf K (KINDS.getD (Int.toNat v4) 0) v5 v6))) := by
 rw [yy14]; rfl
end
end Go.Ab.T

/- Commands that are made may be written; in a row they are read again. -/
namespace Go.Ab.T
open Go Go.Ab
set_option linter.unusedVariables false
set_option linter.unusedSimpArgs false
structure CG (k : Int) (nm ot tx : List Int) (ak mo : Int) (wo : List Int) (ps : List (Rose Lb)) : Prop where
 ok : okC k nm ot tx ak wo mo ps = true
 b1 : isBw nm
 b2 : isBw ot
 b3 : isBw tx
 b4 : isBw wo
 b5 : ∀ q ∈ ps, pB q
theorem le1000 {s : List Int} {n : Nat} (h : s.length ≤ n) (hn : n ≤ 1000) : tOk s = true := by unfold tOk; exact decide_eq_true (by omega)
theorem tx_add {s : List Int} (h : s.length ≤ 200) {x : List Int} (hx : x.length ≤ 5) : (s ++ x).length ≤ 205 := by rw [List.length_append]; omega
def TAILS : List (List Int) := [[41], [40], [42], [91, 98, 45, 97, 93], [97, 124]]
theorem tails_at : ∀ t : Nat, t < 5 → (∀ x ∈ TAILS.getD t [], 0 ≤ x ∧ x ≤ 255) ∧ (TAILS.getD t []).length ≤ 5 := by decide
theorem kinds_at : ∀ t : Nat, t < 12 → 1 ≤ KINDS.getD t 0 ∧ KINDS.getD t 0 ≤ 8 := by unfold KINDS; decide
theorem kinds_5 : ∀ t : Nat, t < 5 → 1 ≤ KINDS.getD t 0 ∧ KINDS.getD t 0 ≤ 3 := by unfold KINDS; decide
section
variable {R : Type}
theorem body_tot (kf : Nat) (hkf : 100010000 ≤ kf) (l : List Int) (hl : ∀ x ∈ l, 0 ≤ x ∧ x ≤ 255) (hll : l.length ≤ 150) (k : Int) (hk : 1 ≤ k ∧ k ≤ 7) (p : Nat) (hp : p ≤ l.length) :
  ∃ (nm ot tx : List Int) (ak mo : Int) (wo : List Int) (p' : Nat), CG k nm ot tx ak mo wo [] ∧ p' ≤ l.length ∧ ∀ K : Int → List Int → List Int → List Int → Int → Int → List Int → Int → List Int → List (Rose Lb) → Option R,
   cbody kf K k l (p : Int) = K k nm ot tx ak mo l (p' : Int) wo [] := by
 obtain ⟨nm, p1, n1, n2, n3, n4, nK⟩ := name_tot (R := R) l hl hll p hp
 have tnm := le1000 n2 (by omega)
 have nob : ∀ q ∈ ([] : List (Rose Lb)), pB q := fun q hq => by cases hq
 have h : k = 1 ∨ k = 2 ∨ k = 3 ∨ k = 4 ∨ k = 5 ∨ k = 6 ∨ k = 7 := by omega
 have text : ∀ k : Int, k = 1 ∨ k = 2 → ∃ (tx : List Int) (p' : Nat), CG k nm [] tx 0 0 [] [] ∧ p' ≤ l.length ∧ ∀ K : Int → List Int → List Int → List Int → Int → Int → List Int → Int → List Int → List (Rose Lb) → Option R,
   yy12 kf l (p1 : Int) (fun v15 v16 v17 => yy15 12 v16 v17 (fun v18 v19 v20 => bif decide (v18 = 0) then yy15 5 v19 v20 (fun v21 v22 v23 => gd (decide (0 ≤ v21)) (gd (decide (v21 < (TAILS.length : Int))) (gd (decide (v15.length + (TAILS.getD (Int.toNat v21) ([] : List Int)).length < SMALL))
    (K k nm [] (v15 ++ TAILS.getD (Int.toNat v21) ([] : List Int)) 0 0 v22 v23 [] [])))) else K k nm [] v15 0 0 v19 v20 [] [])) = K k nm [] tx 0 0 l (p' : Int) [] [] := by
  intro k hk
  have cg : ∀ tx : List Int, isBw tx → tx.length ≤ 205 → CG k nm [] tx 0 0 [] [] := fun tx h1 h2 => by
   have ttx := le1000 h2 (by omega)
   refine ⟨?_, n1, bw_nil, h1, bw_nil, nob⟩
   rcases hk with rfl | rfl <;> simp [okC, okP, restB, okF, tnm, ttx]
  obtain ⟨s, p2, s1, s2, s3, s4, sK⟩ := text_tot (R := R) kf hkf l hl hll p1 n4
  obtain ⟨t, p3, ht, a1, a2, _, _, hK⟩ := pnum (R := R) 12 (by omega) l hl (by omega) p2 s4
  by_cases h0 : t = 0
  ·obtain ⟨u, p4, hu, b1, b2, _, _, hK2⟩ := pnum (R := R) 5 (by omega) l hl (by omega) p3 a2
   obtain ⟨t1, t2⟩ := tails_at u hu
   have hlen := tx_add s2 t2
   refine ⟨s ++ TAILS.getD u [], p4, cg _ (isB_app s1 t1) hlen, b2, fun K => ?_⟩
   refine (sK _).trans ((hK _).trans ?_)
   rw [decide_eq_true (show (t : Int) = 0 by omega), cond_true]
   refine (hK2 _).trans ?_
   have hlt : u < TAILS.length := hu
   rw [gdl hlt, Int.toNat_natCast, gds (by rw [List.length_append] at hlen; omega)]
  ·refine ⟨s, p3, cg _ s1 (by omega), a2, fun K => ?_⟩
   refine (sK _).trans ((hK _).trans ?_)
   rw [decide_eq_false (show ¬ (t : Int) = 0 by omega), cond_false]
 rcases h with rfl | rfl | rfl | rfl | rfl | rfl | rfl
 ·obtain ⟨tx, p', c, c2, cK⟩ := text 1 (.inl rfl)
  refine ⟨nm, [], tx, 0, 0, [], p', c, c2, fun K => ?_⟩
  unfold cbody
  simp only [Int.reduceEq, decide_true, decide_false, Bool.not_false, Bool.not_true, cond_true, cond_false]
  exact (nK _).trans (cK K)
 ·obtain ⟨tx, p', c, c2, cK⟩ := text 2 (.inr rfl)
  refine ⟨nm, [], tx, 0, 0, [], p', c, c2, fun K => ?_⟩
  unfold cbody
  simp only [Int.reduceEq, decide_true, decide_false, Bool.not_false, Bool.not_true, cond_true, cond_false]
  exact (nK _).trans (cK K)
 ·refine ⟨nm, [], [], 0, 0, [], p1, ⟨by simp [okC, okP, restB, okF, tnm], n1, bw_nil, bw_nil, bw_nil, nob⟩, n4, fun K => ?_⟩
  unfold cbody
  simp only [Int.reduceEq, decide_true, decide_false, Bool.not_false, Bool.not_true, cond_true, cond_false]
  exact nK _
 ·obtain ⟨t, p2, ht, a1, a2, _, _, hK⟩ := pnum (R := R) 6 (by omega) l hl (by omega) p1 n4
  have ew : IntKind.i64.wrap (1 + (t : Int)) = ((1 + t : Nat) : Int) := by rw [IntKind.wrap_i64]; omega
  have hn : nOk (1 + (t : Int)) 255 = true := by rw [nOk_iff]; omega
  obtain ⟨ot, p3, o1, o2, o3, o4, oK⟩ := name_tot (R := R) l hl hll p2 a2
  have tot := le1000 o2 (by omega)
  have tn : tOk [] = true := le1000 (n := 0) (by simp) (by omega)
  by_cases h3 : 1 + t ≤ 3
  ·refine ⟨nm, ot, [], ((1 + t : Nat) : Int), 0, [], p3, ⟨by simp [okC, okP, restB, okF, tnm, tot, hn], n1, o1, bw_nil, bw_nil, nob⟩, o4, fun K => ?_⟩
   unfold cbody
   simp only [Int.reduceEq, decide_true, decide_false, Bool.not_false, Bool.not_true, cond_true, cond_false]
   refine (nK _).trans ((hK _).trans ?_)
   rw [ew, decide_eq_true (show ((1 + t : Nat) : Int) ≤ 3 by omega), cond_true]
   exact oK _
  ·obtain ⟨u, p4, hu, b1, b2, _, _, hK2⟩ := pnum (R := R) 9 (by omega) l hl (by omega) p2 a2
   obtain ⟨ot', p5, o1', o2', o3', o4', oK'⟩ := name_tot (R := R) l hl hll p4 b2
   have tot' := le1000 o2' (by omega)
   by_cases h0 : u = 0
   ·refine ⟨nm, ot', [], ((1 + t : Nat) : Int), 0, [], p5, ⟨by simp [okC, okP, restB, okF, tnm, tot', hn], n1, o1', bw_nil, bw_nil, nob⟩, o4', fun K => ?_⟩
    unfold cbody
    simp only [Int.reduceEq, decide_true, decide_false, Bool.not_false, Bool.not_true, cond_true, cond_false]
    refine (nK _).trans ((hK _).trans ?_)
    rw [ew, decide_eq_false (show ¬ ((1 + t : Nat) : Int) ≤ 3 by omega), cond_false]
    refine (hK2 _).trans ?_
    rw [decide_eq_true (show (u : Int) = 0 by omega), cond_true]
    exact oK' _
   ·refine ⟨nm, [], [], ((1 + t : Nat) : Int), 0, [], p4, ⟨by simp [okC, okP, restB, okF, tnm, tn, hn], n1, bw_nil, bw_nil, bw_nil, nob⟩, b2, fun K => ?_⟩
    unfold cbody
    simp only [Int.reduceEq, decide_true, decide_false, Bool.not_false, Bool.not_true, cond_true, cond_false]
    refine (nK _).trans ((hK _).trans ?_)
    rw [ew, decide_eq_false (show ¬ ((1 + t : Nat) : Int) ≤ 3 by omega), cond_false]
    refine (hK2 _).trans ?_
    rw [decide_eq_false (show ¬ (u : Int) = 0 by omega), cond_false]
 ·obtain ⟨w, p2, w1, w2, w3, w4, wK⟩ := word_ok9 (R := R) kf (by omega) l hl hll p1 n4
  have tw := le1000 w2 (by omega)
  refine ⟨nm, [], [], 0, 0, w, p2, ⟨by simp [okC, okP, restB, okF, tnm, tw], n1, bw_nil, bw_nil, w1, nob⟩, w4, fun K => ?_⟩
  unfold cbody
  simp only [Int.reduceEq, decide_true, decide_false, Bool.not_false, Bool.not_true, cond_true, cond_false]
  exact (nK _).trans (wK _)
 ·refine ⟨nm, [], [], 0, 0, [], p1, ⟨by simp [okC, okP, restB, okF, tnm], n1, bw_nil, bw_nil, bw_nil, nob⟩, n4, fun K => ?_⟩
  unfold cbody
  simp only [Int.reduceEq, decide_true, decide_false, Bool.not_false, Bool.not_true, cond_true, cond_false]
  exact nK _
 ·obtain ⟨t, p2, ht, a1, a2, _, _, hK⟩ := pnum (R := R) 9 (by omega) l hl (by omega) p1 n4
  have hn : nOk (t : Int) 65535 = true := by rw [nOk_iff]; omega
  refine ⟨nm, [], [], 0, (t : Int), [], p2, ⟨by simp [okC, okP, restB, okF, tnm, hn], n1, bw_nil, bw_nil, bw_nil, nob⟩, a2, fun K => ?_⟩
  unfold cbody
  simp only [Int.reduceEq, decide_true, decide_false, Bool.not_false, Bool.not_true, cond_true, cond_false]
  exact (nK _).trans (hK _)
theorem part_tot (kf : Nat) (hkf : 100010000 ≤ kf) (l : List Int) (hl : ∀ x ∈ l, 0 ≤ x ∧ x ≤ 255) (hll : l.length ≤ 150) (p : Nat) (hp : p ≤ l.length) :
  ∃ (k : Int) (nm ot tx : List Int) (ak mo : Int) (wo : List Int) (p' : Nat), CG k nm ot tx ak mo wo [] ∧ (1 ≤ k ∧ k ≤ 7) ∧ p' ≤ l.length ∧ ∀ K : Int → List Int → List Int → List Int → Int → Int → List Int → Int → List Int → List (Rose Lb) → Option R,
   yy14 (kf + 1) true l (p : Int) K = K k nm ot tx ak mo l (p' : Int) wo [] := by
 obtain ⟨t, p1, ht, a1, a2, _, _, hK⟩ := pnum (R := R) 12 (by omega) l hl (by omega) p hp
 obtain ⟨u, p2, hu, b1, b2, _, _, hK2⟩ := pnum (R := R) 5 (by omega) l hl (by omega) p1 a2
 have h3 := kinds_5 u hu
 obtain ⟨nm, ot, tx, ak, mo, wo, p', c1, c2, cK⟩ := body_tot (R := R) kf hkf l hl hll (KINDS.getD u 0) (by omega) p2 b2
 refine ⟨_, nm, ot, tx, ak, mo, wo, p', c1, by omega, c2, fun K => ?_⟩
 rw [cmd_eq]
 have hlt : t < KINDS.length := ht
 have hlu : u < KINDS.length := Nat.lt_trans hu (by unfold KINDS; decide)
 refine (hK _).trans ?_
 rw [gdl hlt, cond_true]
 refine (hK2 _).trans ?_
 rw [gdl hlu, Int.toNat_natCast]
 exact cK K
def nodeC (k : Int) (nm ot tx : List Int) (ak mo : Int) (wo : List Int) (ps : List (Rose Lb)) : Rose Lb := Rose.node (k, nm, ot, tx, ak, wo, mo, ()) ps
theorem parts_tot (kf : Nat) (hkf : 100010000 ≤ kf) (l : List Int) (hl : ∀ x ∈ l, 0 ≤ x ∧ x ≤ 255) (hll : l.length ≤ 150) (y0 : Int) (y1 y2 y3 : List Int) (y4 y5 y6 : Int) (y7 y8 y9 : List Int) (y10 y11 : Int) (y12 : List Int) (y13 : List (Rose Lb)) (y14 : List Int) : ∀ (m kk p : Nat) (ps : List (Rose Lb)), m < kk → p ≤ l.length → ps.length + m ≤ 20 → (∀ q ∈ ps, okR q = true ∧ pB q) →
  ∃ (ps' : List (Rose Lb)) (p' : Nat), ps'.length ≤ 20 ∧ (∀ q ∈ ps', okR q = true ∧ pB q) ∧ p' ≤ l.length ∧ ∀ Ke : (List Int) → Int → Int → (List Int) → (List Int) → (List Int) → Int → Int → Int → (List Int) → (List Int) → (List Int) → Int → Int → (List Int) → (List (Rose Lb)) → (List Int) → (List (Rose Lb)) → Option R,
   yy14_l24 (yy14 (kf + 1)) (kf + 1) kk y0 y1 y2 y3 y4 y5 y6 y7 y8 y9 y10 y11 y12 y13 y14 Ke ((m : Int) - 1) l (p : Int) ps = Ke l (p' : Int) y0 y1 y2 y3 y4 y5 y6 y7 y8 y9 y10 y11 y12 y13 y14 ps'
 | m, 0, p, ps, h, _, _, _ => by omega
 | 0, kk + 1, p, ps, _, hp, h1, h2 => ⟨ps, p, by omega, h2, hp, fun Ke => by rw [yy14_l24]; unfold yy14_l24_b; rfl⟩
 | m + 1, kk + 1, p, ps, h, hp, h1, h2 => by
  obtain ⟨k, nm, ot, tx, ak, mo, wo, p1, c1, c2, c3, cK⟩ := part_tot (R := R) kf hkf l hl hll p hp
  have hok : okP k nm ot tx ak wo mo [] = true := by
   have := c1.ok
   unfold okC at this
   rwa [decide_eq_false (show ¬ k = 8 by omega), cond_false] at this
  obtain ⟨ps', p', q1, q2, q3, q4⟩ := parts_tot kf hkf l hl hll y0 y1 y2 y3 y4 y5 y6 y7 y8 y9 y10 y11 y12 y13 y14 m kk p1 (ps ++ [nodeC k nm ot tx ak mo wo []]) (by omega) c3 (by rw [List.length_append, List.length_singleton]; omega) (fun q hq => by
   rcases List.mem_append.1 hq with hq | hq
   ·exact h2 q hq
   ·rw [List.mem_singleton.1 hq]; exact ⟨hok, c1.b1, c1.b2, c1.b3, c1.b4⟩)
  refine ⟨ps', p', q1, q2, q3, fun Ke => ?_⟩
  rw [yy14_l24]; unfold yy14_l24_b
  rw [show ((m + 1 : Nat) : Int) - 1 = (m : Int) by omega, z0 m, cond_true]
  refine (cK _).trans ?_
  rw [gds (by simp; omega), show IntKind.i64.wrap ((m : Int) - 1) = (m : Int) - 1 by rw [IntKind.wrap_i64]; omega]
  exact q4 Ke
theorem cmd_tot (kf : Nat) (hkf : 100010000 ≤ kf) (l : List Int) (hl : ∀ x ∈ l, 0 ≤ x ∧ x ≤ 255) (hll : l.length ≤ 150) (p : Nat) (hp : p ≤ l.length) :
  ∃ (k : Int) (nm ot tx : List Int) (ak mo : Int) (wo : List Int) (ps : List (Rose Lb)) (p' : Nat), CG k nm ot tx ak mo wo ps ∧ p' ≤ l.length ∧ ∀ K : Int → List Int → List Int → List Int → Int → Int → List Int → Int → List Int → List (Rose Lb) → Option R,
   yy8 (kf + 2) l (p : Int) K = K k nm ot tx ak mo l (p' : Int) wo ps := by
 obtain ⟨t, p1, ht, a1, a2, _, _, hK⟩ := pnum (R := R) 12 (by omega) l hl (by omega) p hp
 have h8 := kinds_at t ht
 have hlt : t < KINDS.length := ht
 have start : ∀ K : Int → List Int → List Int → List Int → Int → Int → List Int → Int → List Int → List (Rose Lb) → Option R, yy8 (kf + 2) l (p : Int) K = cbody (kf + 1) K (KINDS.getD t 0) l (p1 : Int) := fun K => by
  unfold yy8 yy8_b
  rw [cmd_eq]
  refine (hK _).trans ?_
  rw [gdl hlt, cond_false, Int.toNat_natCast]
 by_cases hk : KINDS.getD t 0 ≤ 7
 ·obtain ⟨nm, ot, tx, ak, mo, wo, p', c1, c2, cK⟩ := body_tot (R := R) (kf + 1) (by omega) l hl hll (KINDS.getD t 0) (by omega) p1 a2
  exact ⟨_, nm, ot, tx, ak, mo, wo, [], p', c1, c2, fun K => (start K).trans (cK K)⟩
 ·have e8 : KINDS.getD t 0 = 8 := by omega
  obtain ⟨u, p2, hu, b1, b2, _, _, hK2⟩ := pnum (R := R) 4 (by omega) l hl (by omega) p1 a2
  obtain ⟨ps, p', q1, q2, q3, q4⟩ := parts_tot (R := R) kf hkf l hl hll 0 [] [] [] 0 0 8 [] [] [] 0 0 [] [] [] (u + 1) (kf + 1) p2 [] (by omega) b2 (by simp; omega) (fun q hq => by cases hq)
  have hn : nOk (ps.length : Int) 20 = true := by rw [nOk_iff]; omega
  have hall : ps.all okR = true := List.all_eq_true.2 fun q hq => (q2 q hq).1
  refine ⟨8, [], [], [], 0, 0, [], ps, p', ⟨by simp [okC, restB, hn, hall], bw_nil, bw_nil, bw_nil, bw_nil, fun q hq => (q2 q hq).2⟩, q3, fun K => ?_⟩
  rw [start, e8]
  unfold cbody
  simp only [Int.reduceEq, decide_true, decide_false, Bool.not_false, Bool.not_true, cond_true, cond_false]
  refine (hK2 _).trans ?_
  have := q4 (fun v75 v76 v77 v78 v79 v80 v81 v82 v83 v84 v85 v86 v87 v88 v89 v90 v91 v92 => K v83 v84 v85 v86 v87 v88 v75 v76 v91 v92)
  rw [show ((u + 1 : Nat) : Int) - 1 = (u : Int) by omega] at this
  exact this
def CGn (q : Rose Lb) : Prop := CG q.lab.1 q.lab.2.1 q.lab.2.2.1 q.lab.2.2.2.1 q.lab.2.2.2.2.1 q.lab.2.2.2.2.2.2.1 q.lab.2.2.2.2.2.1 q.kids
theorem cmds_tot (kf : Nat) (hkf : 100010000 ≤ kf) (l : List Int) (hl : ∀ x ∈ l, 0 ≤ x ∧ x ≤ 255) (hll : l.length ≤ 150) : ∀ (m kk p : Nat) (cs : List (Rose Lb)), cs.length + m = 20 → m < kk → p ≤ l.length → (∀ q ∈ cs, CGn q) →
  ∃ cs' : List (Rose Lb), cs'.length ≤ 20 ∧ (∀ q ∈ cs', CGn q) ∧ ∀ Ke : List (Rose Lb) → Option R, yy6_l3 (kf + 2) kk 20 Ke l (p : Int) cs = Ke cs'
 | m, 0, p, cs, _, h, _, _ => by omega
 | m, kk + 1, p, cs, hm, hk, hp, h1 => by
  by_cases ho : l.length ≤ p
  ·refine ⟨cs, by omega, h1, fun Ke => ?_⟩
   rw [yy6_l3]; unfold yy6_l3_b yy16 yy16_b
   rw [decide_eq_true (show (l.length : Int) ≤ (p : Int) by omega)]; rfl
  cases m with
  | zero =>
   refine ⟨cs, by omega, h1, fun Ke => ?_⟩
   rw [yy6_l3]; unfold yy6_l3_b yy16 yy16_b
   rw [decide_eq_false (show ¬ (l.length : Int) ≤ (p : Int) by omega)]
   dsimp only
   rw [Bool.not_false, cond_true, decide_eq_false (show ¬ (cs.length : Int) < 20 by omega), cond_false]
  | succ m =>
   obtain ⟨k, nm, ot, tx, ak, mo, wo, ps, p1, c1, c2, cK⟩ := cmd_tot (R := R) kf hkf l hl hll p hp
   obtain ⟨cs', q1, q2, q3⟩ := cmds_tot kf hkf l hl hll m kk p1 (cs ++ [nodeC k nm ot tx ak mo wo ps]) (by rw [List.length_append, List.length_singleton]; omega) (by omega) c2 (fun q hq => by
    rcases List.mem_append.1 hq with hq | hq
    ·exact h1 q hq
    ·rw [List.mem_singleton.1 hq]; exact c1)
   refine ⟨cs', q1, q2, fun Ke => ?_⟩
   rw [yy6_l3]; unfold yy6_l3_b yy16 yy16_b
   rw [decide_eq_false (show ¬ (l.length : Int) ≤ (p : Int) by omega)]
   dsimp only
   rw [Bool.not_false, cond_true, decide_eq_true (show (cs.length : Int) < 20 by omega), cond_true]
   refine (cK _).trans ?_
   rw [gds (by simp; omega)]
   exact q3 Ke
noncomputable def wQ (q : Rose Lb) : List Int := wC q.lab.1 q.lab.2.1 q.lab.2.2.1 q.lab.2.2.2.1 q.lab.2.2.2.2.1 q.lab.2.2.2.2.2.1 q.lab.2.2.2.2.2.2.1 q.kids
theorem wQ_len {q : Rose Lb} (h : CGn q) : (wQ q).length ≤ 40402 := by
 have ho := h.ok
 unfold okC at ho
 unfold wQ wC
 by_cases h8 : q.lab.1 = 8
 ·rw [decide_eq_true h8, cond_true] at ho ⊢
  obtain ⟨_, h2⟩ := ands ho
  obtain ⟨h2, _⟩ := ands h2
  have := nOk_iff.1 h2
  have hf := flat_len q.kids
  have hm : q.kids.length * 2020 ≤ 20 * 2020 := Nat.mul_le_mul_right _ (by omega)
  rw [List.length_append, List.length_append, wn_len, wn_len]
  omega
 ·rw [decide_eq_false h8, cond_false]
  have := wP_len q.lab.1 q.lab.2.1 q.lab.2.2.1 q.lab.2.2.2.1 q.lab.2.2.2.2.1 q.lab.2.2.2.2.2.1 q.lab.2.2.2.2.2.2.1 q.kids
  omega
theorem wQs_len : ∀ (cs : List (Rose Lb)), (∀ q ∈ cs, CGn q) → (cs.flatMap wQ).length ≤ cs.length * 40402
 | [], _ => by simp
 | q :: r, h => by
  have h1 := wQ_len (h q List.mem_cons_self)
  have h2 := wQs_len r fun x hx => h x (List.mem_cons_of_mem _ hx)
  rw [List.flatMap_cons, List.length_append, List.length_cons, Nat.succ_mul]; omega
theorem wQs_isB (cs : List (Rose Lb)) (h : ∀ q ∈ cs, CGn q) : isBw (cs.flatMap wQ) := fun x hx => by
 obtain ⟨q, hq, hx⟩ := List.mem_flatMap.1 hx
 have c := h q hq
 exact wC_isB q.lab.1 q.lab.2.2.2.2.1 q.lab.2.2.2.2.2.2.1 c.b1 c.b2 c.b3 c.b4 c.b5 x hx
theorem rows8 (kf : Nat) (hkf : 100 ≤ kf) (cs : List (Rose Lb)) (hc : cs.length ≤ 20) (h : ∀ q ∈ cs, CGn q) (Kr : Bool → List Int → List (Rose Lb) → Option R) (Ke : List Int → List (Rose Lb) → Option R) : ∀ (m kk i : Nat) (b : List Int), i + m = cs.length → m < kk → b.length ≤ i * 40402 →
  yy0_l8 kf kk cs Kr Ke b (i : Int) = Ke (b ++ (cs.drop i).flatMap wQ) cs
 | m, 0, i, b, _, h, _ => by omega
 | 0, kk + 1, i, b, hi, _, _ => by
  rw [yy0_l8]; unfold yy0_l8_b
  rw [lt_f (by omega), cond_false, List.drop_eq_nil_of_le (by omega)]; simp
 | m + 1, kk + 1, i, b, hi, hk, hb => by
  have hil : i < cs.length := by omega
  have hg := h _ (List.getElem_mem hil)
  have hl := wQ_len hg
  have hm : i * 40402 ≤ 20 * 40402 := Nat.mul_le_mul_right _ (by omega)
  rw [yy0_l8]; unfold yy0_l8_b
  rw [lt_t hil, cond_true, z0 i, gdt, gdt, Int.toNat_natCast, getD_at cs i hil]
  refine (putCmd_ok kf (by omega) b (by omega) _ _ _ _ _ _ _ _ _).trans ?_
  rw [hg.ok, cond_true, show (!(decide ((0 : Int) = 0))) = false from rfl, cond_false, wN i (by omega)]
  refine (rows8 kf hkf cs hc h Kr Ke m kk (i + 1) (b ++ wQ cs[i]) (by omega) (by omega) (by rw [List.length_append, Nat.succ_mul]; omega)).trans ?_
  rw [List.drop_eq_getElem_cons hil, List.flatMap_cons, List.append_assoc]
theorem rows15 (kf : Nat) (hkf : 2000 ≤ kf) (cs : List (Rose Lb)) (hc : cs.length ≤ 20) (h : ∀ q ∈ cs, CGn q) (Kr : Bool → List Int → Option R) (Ke : List Int → Option R) : ∀ (m kk i : Nat), i + m = cs.length → m < kk →
  yy0_l15 kf kk cs Kr Ke ((cs.drop i).flatMap wQ) (i : Int) = Ke []
 | m, 0, i, _, h => by omega
 | 0, kk + 1, i, hi, _ => by
  rw [yy0_l15]; unfold yy0_l15_b
  rw [lt_f (by omega), cond_false, List.drop_eq_nil_of_le (by omega)]; rfl
 | m + 1, kk + 1, i, hi, hk => by
  have hil : i < cs.length := by omega
  have hg := h _ (List.getElem_mem hil)
  have hsub : ∀ q ∈ cs.drop i, CGn q := fun q hq => h q (List.mem_of_mem_drop hq)
  have hlen := wQs_len (cs.drop i) hsub
  have hm : (cs.drop i).length * 40402 ≤ 20 * 40402 := Nat.mul_le_mul_right _ (by rw [List.length_drop]; omega)
  have hI : Ib ((cs.drop i).flatMap wQ) := ⟨wQs_isB _ hsub, by omega⟩
  have hd : (cs.drop i).flatMap wQ = wQ cs[i] ++ (cs.drop (i + 1)).flatMap wQ := by rw [List.drop_eq_getElem_cons hil, List.flatMap_cons]
  have hr : rC ((cs.drop i).flatMap wQ) = ⟨cs[i].lab.1, cs[i].lab.2.1, cs[i].lab.2.2.1, cs[i].lab.2.2.2.1, cs[i].lab.2.2.2.2.1, cs[i].lab.2.2.2.2.2.2.1, (cs.drop (i + 1)).flatMap wQ, .nil, cs[i].lab.2.2.2.2.2.1, cs[i].kids⟩ := by
   rw [hd]; exact rC_ok hg.ok _
  have hw : IntKind.i64.wrap ((((cs.drop i).flatMap wQ).length : Int) - (((cs.drop (i + 1)).flatMap wQ).length : Int)) = ((wQ cs[i]).length : Int) := by
   have : ((cs.drop i).flatMap wQ).length = (wQ cs[i]).length + ((cs.drop (i + 1)).flatMap wQ).length := by rw [hd, List.length_append]
   rw [IntKind.wrap_i64]; omega
  rw [yy0_l15]; unfold yy0_l15_b
  rw [lt_t hil, cond_true]
  refine (takeCmd_ok kf (by omega) _ hI _).trans ?_
  rw [hr]
  dsimp only
  rw [hw, show (!(Err.isNil Err.nil)) = false from rfl, cond_false, show (!(decide ((0 : Int) = 0))) = false from rfl, cond_false, z0 i, gdt, gdt, Int.toNat_natCast, getD_at cs i hil]
  refine (same_ok kf (by omega) _ _ _ _ _ _ _ _ hg.ok _).trans ?_
  have hle : (wQ cs[i]).length ≤ ((cs.drop i).flatMap wQ).length := by rw [hd, List.length_append]; omega
  rw [Bool.not_true, cond_false, z0, gdt, decide_eq_true (show ((wQ cs[i]).length : Int) ≤ (((cs.drop i).flatMap wQ).length : Int) by omega), gdt, wN i (by omega), Int.toNat_natCast]
  rw [show ((cs.drop i).flatMap wQ).drop (wQ cs[i]).length = (cs.drop (i + 1)).flatMap wQ by rw [hd, List.drop_left]]
  exact rows15 kf hkf cs hc h Kr Ke m kk (i + 1) (by omega) (by omega)
theorem wrows_ok (kf : Nat) (hkf : 100020000 ≤ kf) (l : List Int) (hl : ∀ x ∈ l, 0 ≤ x ∧ x ≤ 255) (K : Bool → Option R) : yy0 kf l K = K true := by
 unfold yy0 yy0_b
 rw [begun_ok kf (by omega), Bool.not_true, cond_false]
 by_cases hll : 150 < (l.length : Int)
 ·rw [decide_eq_true hll, cond_true]
 rw [decide_eq_false hll, cond_false]
 obtain ⟨kf', rfl⟩ : ∃ kf', kf = kf' + 2 := ⟨kf - 2, by omega⟩
 obtain ⟨cs, q1, q2, q3⟩ := cmds_tot (R := R) kf' (by omega) l hl (by omega) 20 (kf' + 2) 0 [] (by simp) (by omega) (by omega) (fun q hq => by cases hq)
 unfold yy6 yy6_b yy7 yy7_b
 refine (q3 _).trans ?_
 refine (rows8 (kf' + 2) (by omega) cs q1 q2 _ _ cs.length (kf' + 2) 0 [] (by omega) (by omega) (by simp)).trans ?_
 rw [List.nil_append]
 refine (rows15 (kf' + 2) (by omega) cs q1 q2 _ _ cs.length (kf' + 2) 0 (by omega) (by omega)).trans ?_
 rfl
end
end Go.Ab.T
