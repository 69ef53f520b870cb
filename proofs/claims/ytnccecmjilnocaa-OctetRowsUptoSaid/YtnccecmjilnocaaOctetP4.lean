/- Unlike numbers and unlike texts have unlike bytes. -/
import Derived.Test.YtnccecmjilnocaaOctetP3
namespace Go.Ab.T
open Go Go.Ab
set_option linter.unusedVariables false
set_option linter.unusedSimpArgs false

theorem le8_inj (v w : Int) (hv : 0 ≤ v ∧ v ≤ 18446744073709551615) (hw : 0 ≤ w ∧ w ≤ 18446744073709551615) : le 8 v = le 8 w ↔ v = w := by
  constructor
  · intro h
    have h1 := congrArg de h
    rw [de_le 8 v hv.1, de_le 8 w hw.1] at h1
    have e : ((256 ^ 8 : Nat) : Int) = 18446744073709551616 := by decide
    rw [e, Int.emod_eq_of_lt hv.1 (by omega), Int.emod_eq_of_lt hw.1 (by omega)] at h1
    exact h1
  · intro h; rw [h]

theorem le2_inj (m n : Nat) (hm : m ≤ 65535) (hn : n ≤ 65535) (h : le 2 (m : Int) = le 2 (n : Int)) : m = n := by
  have h1 := congrArg de h
  rw [de_le 2 _ (by omega), de_le 2 _ (by omega)] at h1
  have e : ((256 ^ 2 : Nat) : Int) = 65536 := by decide
  rw [e, Int.emod_eq_of_lt (by omega) (by omega), Int.emod_eq_of_lt (by omega) (by omega)] at h1
  omega

theorem begins_iff (s t : List Int) (hs : s.length ≤ 65535) (ht : t.length ≤ 65535) (hl : (le 2 (s.length : Int) ++ s).length ≤ (le 2 (t.length : Int) ++ t).length) :
    ((le 2 (t.length : Int) ++ t).take (le 2 (s.length : Int) ++ s).length = le 2 (s.length : Int) ++ s) ↔ s = t := by
  constructor
  · intro h
    have h2 := congrArg (List.take 2) h
    rw [List.take_take, Nat.min_eq_left (by rw [List.length_append, le_length]; omega)] at h2
    have e1 := (text_head t [] ht).1
    have e2 := (text_head s [] hs).1
    rw [List.append_nil] at e1 e2
    rw [e1, e2] at h2
    have hlen := le2_inj _ _ ht hs h2
    have : (le 2 (s.length : Int) ++ s).length = (le 2 (t.length : Int) ++ t).length := by
      rw [List.length_append, List.length_append, le_length, le_length, hlen]
    rw [this, List.take_length, hlen] at h
    exact (List.append_cancel_left h).symm
  · intro h
    subst h
    exact List.take_length

theorem apart_ok {R : Type} (kf : Nat) (hkf : 9 ≤ kf) (v w : Int) (hv : 0 ≤ v ∧ v ≤ 18446744073709551615) (hw : 0 ≤ w ∧ w ≤ 18446744073709551615) (s t : List Int) (hs : isB s) (ht : isB t) (K : Bool → Option R) : law1_OctetApart kf v w s t K = K true := by
  unfold law1_OctetApart law1_OctetApart_b
  rw [begun_ok kf hkf]
  simp only [Bool.not_true, cond_false]
  by_cases c1 : 100 < (s.length : Int)
  · simp only [c1, decide_true, cond_true]
  by_cases c2 : 100 < (t.length : Int)
  · simp only [c1, c2, decide_true, decide_false, cond_true, cond_false]
  simp only [c1, c2, decide_false, cond_false]
  rw [text_ok kf hkf [] s (by simp) (by omega)]
  simp only [List.nil_append]
  rw [text_ok kf hkf [] t (by simp) (by omega)]
  simp only [List.nil_append]
  have hput : ∀ (x : Int) (K : List Int → Option R), octet_Put kf [] x 8 K = K (le 8 x) := by
    intro x K
    have := put_ok kf hkf [] x 8 (by omega) (by simp) K
    simpa using this
  have tail : ∀ begins : Bool, begins = decide (s = t) → (octet_Put kf ([] : List Int) v 8 (fun v10 => octet_Put kf ([] : List Int) w 8 (fun v11 => bif decide (decide (v10 = v11) = decide (v = w)) then (K (decide (begins = decide (s = t)))) else (K false)))) = K true := by
    intro begins hb
    rw [hput, hput]
    have e : decide (le 8 v = le 8 w) = decide (v = w) := decide_eq_decide.2 (le8_inj v w hv hw)
    rw [e, hb]
    simp
  by_cases hl : ((le 2 (s.length : Int) ++ s).length : Int) ≤ ((le 2 (t.length : Int) ++ t).length : Int)
  · simp only [hl, decide_true, cond_true]
    rw [gd_true (decide_eq_true (by omega)), gd_true rfl]
    have hb := begins_iff s t (by omega) (by omega) (by omega)
    have := tail (decide ((le 2 (t.length : Int) ++ t).take (Int.toNat ((le 2 (s.length : Int) ++ s).length : Int)) = le 2 (s.length : Int) ++ s)) (by rw [Int.toNat_natCast]; exact decide_eq_decide.2 hb)
    exact this
  · simp only [hl, decide_false, cond_false]
    refine tail false ?_
    symm
    refine decide_eq_false fun h => hl ?_
    subst h
    omega
end Go.Ab.T
