/- Numbers and texts, put and taken back. -/
import Derived.Test.YtnccecmjilnocaaOctetP2
namespace Go.Ab.T
open Go Go.Ab
set_option linter.unusedVariables false
set_option linter.unusedSimpArgs false

theorem take_ok {R : Type} (b : List Int) (p n : Nat) (hn : n ≤ 8) (hb : isB b) (hl : b.length ≤ 1048576 * 16) (h : p + n ≤ b.length) (K : Int → Int → Option R) : octet_Take b p n K = K (de ((b.drop p).take n)) 0 := by
  match n, hn, h with
  | 0, _, h => exact take_0 b p hb hl h K
  | 1, _, h => exact take_1 b p hb hl h K
  | 2, _, h => exact take_2 b p hb hl h K
  | 3, _, h => exact take_3 b p hb hl h K
  | 4, _, h => exact take_4 b p hb hl h K
  | 5, _, h => exact take_5 b p hb hl h K
  | 6, _, h => exact take_6 b p hb hl h K
  | 7, _, h => exact take_7 b p hb hl h K
  | 8, _, h => exact take_8 b p hb hl h K

theorem pow256 (k : Nat) : (2 : Int) ^ (8 * k) = ((256 ^ k : Nat) : Int) := by
  rw [Int.pow_mul]
  have : (2 : Int) ^ 8 = ((256 : Nat) : Int) := by decide
  rw [this, Int.natCast_pow]

theorem pow256_lt (k : Nat) (hk : k < 8) : ((256 ^ k : Nat) : Int) < 18446744073709551616 := by
  match k, hk with
  | 0, _ => decide
  | 1, _ => decide
  | 2, _ => decide
  | 3, _ => decide
  | 4, _ => decide
  | 5, _ => decide
  | 6, _ => decide
  | 7, _ => decide

theorem one_shl (k : Nat) (hk : k < 8) : shl .u64 1 (IntKind.i64.wrap (mulZ 8 (k : Int))) = ((256 ^ k : Nat) : Int) := by
  have h1 : mulZ 8 (k : Int) = ((8 * k : Nat) : Int) := by unfold mulZ; rw [wall_eq]; omega
  have h2 : IntKind.i64.wrap ((8 * k : Nat) : Int) = ((8 * k : Nat) : Int) := by rw [IntKind.wrap_i64]; omega
  rw [h1, h2, shl_ok 1 (8 * k) (by omega) (by omega) (by rw [pow256, Int.one_mul]; exact pow256_lt k hk), pow256, Int.one_mul]

/-- a text, and what stands behind it -/
theorem text_head (s rest : List Int) (hs : s.length ≤ 65535) : (le 2 (s.length : Int) ++ s ++ rest).take 2 = le 2 (s.length : Int) ∧ (le 2 (s.length : Int) ++ s ++ rest).drop 2 = s ++ rest ∧ de (le 2 (s.length : Int)) = s.length := by
  have hl := le_length 2 (s.length : Int)
  refine ⟨?_, ?_, ?_⟩
  · rw [List.append_assoc, List.take_append_of_le_length (by omega), List.take_of_length_le (by omega)]
  · rw [List.append_assoc, List.drop_append_of_le_length (by omega), List.drop_of_length_le (by omega), List.nil_append]
  · rw [de_le 2 _ (by omega)]
    exact Int.emod_eq_of_lt (by omega) (by show _ < (65536 : Int); omega)

theorem isB_append {a b : List Int} (ha : isB a) (hb : isB b) : isB (a ++ b) := by
  intro x hx
  rcases List.mem_append.1 hx with h | h
  · exact ha x h
  · exact hb x h

theorem takeText_back {R : Type} (s rest : List Int) (hs : isB s) (hr : isB rest) (hl : s.length ≤ 65535) (hr2 : rest.length ≤ 1048576) (most : Int) (hm : (s.length : Int) ≤ most) (K : Int → Int → List Int → Option R) :
    octet_TakeText (le 2 (s.length : Int) ++ s ++ rest) most K = K (2 + s.length) 0 s := by
  obtain ⟨h1, h2, h3⟩ := text_head s rest hl
  have hlen : (le 2 (s.length : Int) ++ s ++ rest).length = 2 + s.length + rest.length := by rw [List.length_append, List.length_append, le_length]
  rw [takeText_ok _ (isB_append (isB_append (le_isB _ _) hs) hr) (by rw [hlen]; omega), hlen, h1, h2, h3, if_neg (by omega), if_neg (by omega), if_neg (by push_cast; omega)]
  have : (s ++ rest).take (s.length : Int).toNat = s := by
    rw [Int.toNat_natCast, List.take_append_of_le_length (Nat.le_refl _), List.take_length]
  rw [this]

theorem takeText_cut {R : Type} (s : List Int) (hs : isB s) (hl : s.length ≤ 65535) (most : Int) (hm : (s.length : Int) ≤ most) (p : Nat) (hp : p < s.length + 2) (K : Int → Int → List Int → Option R) :
    octet_TakeText ((le 2 (s.length : Int) ++ s).take p) most K = K 0 2 [] := by
  have hlen : ((le 2 (s.length : Int) ++ s).take p).length = p := by rw [List.length_take, List.length_append, le_length]; omega
  have hb : isB ((le 2 (s.length : Int) ++ s).take p) := fun x hx => isB_append (le_isB _ _) hs x (List.mem_of_mem_take hx)
  rw [takeText_ok _ hb (by rw [hlen]; omega), hlen]
  by_cases h2 : p < 2
  · rw [if_pos h2]
  · obtain ⟨h3, _, h4⟩ := text_head s [] hl
    rw [List.append_nil] at h3
    have ht : ((le 2 (s.length : Int) ++ s).take p).take 2 = le 2 (s.length : Int) := by
      rw [List.take_take, Nat.min_eq_left (by omega), h3]
    rw [if_neg h2, ht, h4, if_neg (by omega), if_pos (by omega)]

theorem place_ok {R : Type} (c : Int) (hc : -9223372036854775808 ≤ c ∧ c ≤ 9223372036854775807) (n : Nat) (hn : 0 < n) (hn2 : n ≤ 1048576) : ∃ p : Nat, p < n ∧ ∀ K : Int → Option R, law0_Place c (n : Int) K = K (p : Int) := by
  have h1 : decide ((n : Int) < 1) = false := decide_eq_false (by omega)
  have h2 : decide ((n : Int) ≠ 0) = true := decide_eq_true (by omega)
  have hlt : Int.tmod c n < n := Int.tmod_lt_of_pos c (by omega)
  have hgt : -(n : Int) < Int.tmod c n := by
    have := Int.tmod_lt_of_pos (-c) (show (0 : Int) < n by omega)
    rw [Int.neg_tmod] at this
    omega
  by_cases h : Int.tmod c n < 0
  · refine ⟨(Int.tmod c n + n).toNat, by omega, fun K => ?_⟩
    unfold law0_Place law0_Place_b
    simp only [h1, h2, cond_false, gd, cond_true]
    have hw : IntKind.i64.wrap (Int.tmod c n + n) = Int.tmod c n + n := by rw [IntKind.wrap_i64]; omega
    simp only [h, decide_true, cond_true, hw]
    congr 1; omega
  · refine ⟨(Int.tmod c n).toNat, by omega, fun K => ?_⟩
    unfold law0_Place law0_Place_b
    simp only [h1, h2, cond_false, gd, cond_true]
    simp only [h, decide_false, cond_false]
    congr 1; omega

theorem back_ok {R : Type} (kf : Nat) (hkf : 9 ≤ kf) (b s rest : List Int) (hb : isB b) (hs : isB s) (hr : isB rest) (v : Int) (hv : 0 ≤ v ∧ v ≤ 18446744073709551615) (n : Int) (hn : 0 ≤ n ∧ n ≤ 255) (c : Int) (hc : -9223372036854775808 ≤ c ∧ c ≤ 9223372036854775807)
    (K : Bool → Option R) : law1_OctetBack kf b s rest v n c K = K true := by
  unfold law1_OctetBack law1_OctetBack_b
  rw [begun_ok kf hkf]
  simp only [Bool.not_true, cond_false]
  by_cases c1 : 300 < (b.length : Int)
  · simp only [c1, decide_true, cond_true]
  by_cases c2 : 300 < (s.length : Int)
  · simp only [c1, c2, decide_true, decide_false, cond_true, cond_false]
  by_cases c3 : 300 < (rest.length : Int)
  · simp only [c1, c2, c3, decide_true, decide_false, cond_true, cond_false]
  simp only [c1, c2, c3, decide_false, cond_false]
  obtain ⟨k, hk, hk8⟩ : ∃ k : Nat, IntKind.i64.wrap (Int.tmod n 9) = (k : Int) ∧ k ≤ 8 := by
    refine ⟨(n % 9).toNat, ?_, by omega⟩
    rw [Int.tmod_eq_emod_of_nonneg hn.1, IntKind.wrap_i64]
    omega
  rw [hk, put_ok kf hkf b v k hk8 (by omega)]
  have hlen1 : (b ++ le k v).length = b.length + k := by rw [List.length_append, le_length]
  rw [gd_true (decide_eq_true (by rw [hlen1]; show _ < 17179869184; omega))]
  rw [take_ok (b ++ le k v ++ rest) b.length k hk8 (isB_append (isB_append hb (le_isB _ _)) hr) (by rw [List.length_append, hlen1]; omega) (by rw [List.length_append, hlen1]; omega)]
  have hd : ((b ++ le k v ++ rest).drop b.length).take k = le k v := by
    rw [List.append_assoc, List.drop_left, List.take_append_of_le_length (by rw [le_length]; omega), List.take_of_length_le (by rw [le_length]; omega)]
  rw [hd, de_le k v hv.1]
  have htext : ∀ want : Int, v % ((256 ^ k : Nat) : Int) = want →
      octet_Text kf ([] : List Int) s (fun v13 => gd (decide (([] : List Int).length + v13.length < SMALL)) (gd (decide ((([] : List Int) ++ v13).length + rest.length < SMALL))
        (octet_TakeText ((([] : List Int) ++ v13) ++ rest) 300 (fun v14 v15 v16 => law0_Place c (v13.length : Int) (fun v17 => gd (decide (0 ≤ v17)) (gd (decide (v17 ≤ (v13.length : Int)))
          (octet_TakeText (v13.take (Int.toNat v17)) 300 (fun v18 v19 v20 => bif decide ((0 : Int) = 0) then (bif decide (v % ((256 ^ k : Nat) : Int) = want) then (bif decide (v15 = 0) then (bif decide (v14 = (v13.length : Int)) then (bif decide (v16 = s) then
            (bif decide (v19 = 2) then (K (decide (v18 = 0))) else (K false)) else (K false)) else (K false)) else (K false)) else (K false)) else (K false))))))))) = K true := by
    intro want hw
    rw [text_ok kf hkf [] s (by simp) (by omega)]
    simp only [List.nil_append]
    have hlen2 : (le 2 (s.length : Int) ++ s).length = s.length + 2 := by rw [List.length_append, le_length]; omega
    rw [gd_true (decide_eq_true (by rw [hlen2]; show 0 + _ < 17179869184; omega)), gd_true (decide_eq_true (by rw [hlen2]; show _ < 17179869184; omega))]
    rw [takeText_back s rest hs hr (by omega) (by omega) 300 (by omega)]
    obtain ⟨p, hp, hpl⟩ := place_ok (R := R) c hc (le 2 (s.length : Int) ++ s).length (by omega) (by omega)
    rw [hpl, gd_true (decide_eq_true (by omega)), gd_true (decide_eq_true (by omega)), Int.toNat_natCast, takeText_cut s hs (by omega) 300 (by omega) p (by omega)]
    have e : (2 + (s.length : Int) = ((le 2 (s.length : Int) ++ s).length : Int)) := by rw [hlen2]; push_cast; omega
    simp only [hw, e, decide_true, cond_true]
  by_cases h8 : (k : Int) < 8
  · have hk' : k < 8 := by omega
    have hpos : (0 : Int) < ((256 ^ k : Nat) : Int) := by
      have := Nat.pow_pos (n := k) (show 0 < 256 by omega)
      omega
    have hw0 : IntKind.i64.wrap (mulZ 8 (k : Int)) = ((8 * k : Nat) : Int) := by
      have h1 : mulZ 8 (k : Int) = ((8 * k : Nat) : Int) := by unfold mulZ; rw [wall_eq]; omega
      rw [h1, IntKind.wrap_i64]; omega
    have g0 : decide (0 ≤ IntKind.i64.wrap (mulZ 8 (k : Int))) = true := decide_eq_true (by rw [hw0]; omega)
    have g1 : decide (((256 ^ k : Nat) : Int) ≠ 0) = true := decide_eq_true (by omega)
    simp only [h8, decide_true, cond_true]
    rw [gd_true g0, one_shl k hk', gd_true g1]
    have := htext (Int.tmod v ((256 ^ k : Nat) : Int)) (by rw [Int.tmod_eq_emod_of_nonneg hv.1])
    simpa using this
  · have hk' : k = 8 := by omega
    simp only [h8, decide_false, cond_false]
    have := htext v (by rw [hk']; exact Int.emod_eq_of_lt hv.1 (by show _ < (18446744073709551616 : Int); omega))
    simpa using this
end Go.Ab.T
