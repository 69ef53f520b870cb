/- scriptorylaw0.Spoil, by its own text. -/
import Derived.Test.YtnccecmjilnocaaOctTA
import Derived.Test.YtnccecmjilnocaaPrimX
import Derived.WalkKit
import Derived.Lib.Walk
namespace Go.Ab.T
open Go Go.Ab Go.Proofs Go.RowKit
set_option linter.unusedVariables false

theorem spoil_walk15 (w : World) (b o n cap : Nat) (hn : n ≤ cap) (hm : cap ≤ CAPM) (h : ∀ i, i < cap → (w.cell? ⟨b, o + i, none⟩).isSome ∧ w.frozen? ⟨b, o + i, none⟩ = false) :
    Calls Try.prog 15 #[.slice (some ⟨b, o, none⟩) n cap] w fun e w' => e = .returned (.tuple #[]) ∧ w' = spW w b o cap := by
  have hsp := sp_cell w b o cap h
  clear h
  have hm : cap ≤ 9223372036854775807 := hm
  have HH : Hid (∀ k i, i < cap → (∃ v, (spW w b o k).cell? ⟨b, o + i, none⟩ = some v) ∧ (spW w b o k).frozen? ⟨b, o + i, none⟩ = false) := ⟨hsp⟩
  clear hsp
  go_enter Try.func15, Try.ntmps15
  go_wp2
  go_loopw [3] (fun vi wr => ∃ k : Nat, vi = .int .i64 (k : Int) ∧ k ≤ cap ∧ wr = spW w b o k) (fun vi _ => cap - (RowKit.intOf vi).toNat)
  case atStart => exact ⟨0, rfl, Nat.zero_le _, rfl⟩
  case round =>
    obtain ⟨k, rfl, hk, hw⟩ := hrel
    by_cases hlt : k < cap
    · obtain ⟨⟨v0, h1⟩, h2⟩ := HH.out k k hlt
      rw [← hw] at h1 h2
      have HW : Hid (wr = spW w b o k) := ⟨hw⟩
      clear hw
      go_wp2
      go_roundw
      case measure => simp [RowKit.intOf]; omega
      case rel =>
        refine ⟨k + 1, by congr 1, by omega, ?_⟩
        rw [HW.out]; rfl
    · have hkc : k = cap := by omega
      subst hkc
      have HW : Hid (wr = spW w b o k) := ⟨hw⟩
      clear hw
      go_wp2
      go_end0
      exact ⟨rfl, HW.out⟩
theorem spoil_none15 (a : Option Addr) (w : World) : Calls Try.prog 15 #[.slice a 0 0] w fun e w' => e = .returned (.tuple #[]) ∧ w' = w := by
  go_enter Try.func15, Try.ntmps15
  cases a <;>
  (go_wp2
   go_loopw [3] (fun vi wr => vi = .int .i64 0 ∧ wr = w) (fun vi _ => 0)
   case atStart => exact ⟨rfl, rfl⟩
   case round =>
     obtain ⟨rfl, hw⟩ := hrel
     have HW : Hid (wr = w) := ⟨hw⟩
     clear hw
     go_wp2
     go_end0
     exact ⟨rfl, HW.out⟩)
theorem spw15 : SpWalk Try.prog 15 := ⟨fun a w => enter_of Try.func15 rfl rfl a w, spoil_none15, spoil_walk15⟩
theorem pok_15 {R : Type} : ShOk (R := R) Try.prog glob raw 15 sh15 := by
  intro av es K r h
  unfold sh15 at h
  split at h
  · exact ⟨_, _, by rw [show npF raw 15 _ = 1 from rfl]; exact spoil_own spw15 _, h⟩
  · exact ⟨_, _, by rw [show npF raw 15 _ = 1 from rfl]; exact spoil_twn spw15 _ _, h⟩
  · exact no_some h
end Go.Ab.T
