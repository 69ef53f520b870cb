/- strings.IndexByte, by its own text: what a call comes to. -/
import Derived.Test.YtlihheeknnnbmaaDoorShoTA
import Derived.Test.YtlihheeknnnbmaaDoorPrimX
import Derived.WalkKit
import Derived.Lib.Walk
namespace Go.Ab.T
open Go Go.Ab Go.Proofs Go.RowKit Go.Lib
set_option linter.unusedVariables false
theorem idx_walk82 (s : ByteArray) (c : Int) (w : World) :
    Calls Tryd.prog 82 #[.string s, .int .u8 c] w fun e w' => e = .returned (.int .i64 (Lib.indexByte s.data.toList c.toNat.toUInt8)) ∧ w' = w := by
  have h84 := @run_callFunc_extern Tryd.prog 84 _ Extern.BytealgIndexByte.indexByte Tryd.func84 (by kernel_rfl) (by kernel_rfl) (by kernel_rfl) (by kernel_rfl)
  have hi := fun w => Lib.run_indexByteString (P := Tryd.prog) s c w
  go_enter Tryd.func82, Tryd.ntmps82
  go_wp2
  go_ret
  exact ⟨rfl, rfl⟩
theorem idx_walk74 (s : ByteArray) (c : Int) (w : World) :
    Calls Tryd.prog 74 #[.string s, .int .u8 c] w fun e w' => e = .returned (.int .i64 (Lib.indexByte s.data.toList c.toNat.toUInt8)) ∧ w' = w := by
  have h := idx_walk82 s c
  go_enter Tryd.func74, Tryd.ntmps74
  go_wp2_with (go_at_call 82; refine (h _).mono ?_; rintro e w' ⟨rfl, rfl⟩)
  go_ret
  exact ⟨rfl, rfl⟩
theorem pok_74 {R : Type} : ShOk (R := R) Tryd.prog glob raw 74 sh74 := by
  intro av es K r h
  unfold sh74 at h
  split at h
  · rename_i s c
    refine ⟨_, _, ?_, h⟩
    rw [npF_nil]
    refine fn_pure (fun a w => enter_of Tryd.func74 rfl rfl a w) fun E w vs hgl hin => ?_
    obtain ⟨u1, q1, rfl, h1, u2, q2, rfl, h2, h3⟩ := hin.vals
    cases h3
    obtain ⟨bs, hs, rfl, hl⟩ := relV_str.1 h1
    obtain ⟨hc, hk⟩ := relV_int.1 h2
    subst hs; subst hc
    refine Calls.mono (idx_walk74 bs c w) ?_
    rintro e w' ⟨rfl, rfl⟩
    have hb : 0 ≤ c ∧ c ≤ 255 := by simpa [inK, IntKind.min, IntKind.max, IntKind.signed, IntKind.bits] using hk
    refine ⟨_, rfl, rfl, relV_int.2 ⟨?_, ?_⟩⟩
    · rw [idx_eq _ _ hb.1 hb.2]; rfl
    · have hr := idxB_rng (bytesL bs) c
      rw [inK_iff]
      have : MAXL = 4611686018427387904 := rfl
      simp only [IntKind.min, IntKind.max, IntKind.signed, IntKind.bits, if_true]
      omega
  · exact no_some h
end Go.Ab.T
