/- MspTD: a part of the proofs of this seat's statements. -/
import Derived.Test.YtepemhpippkmiaaMspTA
import Derived.Test.YtepemhpippkmiaaClone
import Derived.Shelf.RegionOpenPlain
import Derived.WalkKit
import Derived.Deep.LoopGhost
import Derived.Lib.Walk
import Derived.Lib.SliceRun







namespace Go.Ab.T

open Go Go.Ab Go.Proofs Go.RowKit Go.Lib

set_option linter.unusedVariables false

set_option maxHeartbeats 2000000 in
set_option maxRecDepth 100000 in
theorem cl30_nil (n c : Nat) (w : World) : Calls Try.prog 30 #[.slice none n c] w fun e w' => e = .returned (.slice none 0 0) ∧ w' = w := by
  have tst : Try.prog.underlying 26 = some (.slice 4) := by kernel_rfl
  have qst : ∀ (w : World) (a : Option Addr) (n c n' c' : Nat), (binOp .eql 26 (.slice a n c) (.slice none n' c')).run Try.prog w = .ok (.bool a.isNone) w := fun w a n c n' c' => Lib.run_eql_slice_nil w _ _ a n c n' c' tst
  go_enter Try.func30, Try.ntmps30
  go_wp2
  go_ret
  exact ⟨rfl, rfl⟩

set_option maxHeartbeats 2000000 in
set_option maxRecDepth 100000 in
theorem cl30_some (ad : Addr) (c : Nat) (xs : List Bool) (w : World) (hs : xs.length < SMALL) (hc : ∀ j u, (xs.map (Value.bool))[j]? = some u → w.cell? (ad.add j) = some u) :
    Calls Try.prog 30 #[.slice (some ad) xs.length c] w fun e w' => ∃ v', e = .returned v' ∧ w'.ownsRow w.heap.size 4 1 v' xs.length (xs.map (Value.bool)) ∧ Below w.heap.size w w' ∧ ∀ b o, w.heap.size ≤ b → w'.heap[b]? = some o → Unfrozen o := by
  have tst : Try.prog.underlying 26 = some (.slice 4) := by kernel_rfl
  have qst : ∀ (w : World) (a : Option Addr) (n c n' c' : Nat), (binOp .eql 26 (.slice a n c) (.slice none n' c')).run Try.prog w = .ok (.bool a.isNone) w := fun w a n c n' c' => Lib.run_eql_slice_nil w _ _ a n c n' c' tst
  have ust : ∀ w, Sem.run Try.prog (underlying 26) w = .ok (TypeDesc.slice 4) w := run_underlying tst
  have A : Aside (∀ j u, (xs.map (Value.bool))[j]? = some u → w.cell? (ad.add j) = some u) := hc
  clear hc
  obtain ⟨i0, hi, hz0, hz1, hz2⟩ := info_parts (P := Try.prog) (e := 4) (z := .bool false) (size := 1) (bytes := 1) (by kernel_rfl)
  go_enter Try.func30, Try.ntmps30
  go_wp2_with (at_builtin; refine wpList_append_un _ rfl _ _ 26 rfl w.heap.size 4 i0 (.bool false) 1 tst hi hz0 hz1 hz2 rfl (by decide) (by decide) (by kernel_rfl) (by kernel_rfl) _ rfl (World.ownsRow_made w #[] 0 (Nat.le_refl _) (Nat.zero_le _) rfl) ad xs.length c (xs.map (Value.bool)) rfl ?qc1 ?qc2 ?qc3 ?qc5 ?qc6 ?_)
  case qc1 => simp
  case qc2 =>
    intro j u hj
    exact Lib.cell?_alloc_some _ (A.out j u hj)
  case qc3 => intro u hu; obtain ⟨x, _, rfl⟩ := List.mem_map.1 hu; rfl
  case qc5 => exact hs
  case qc6 => simp
  intro v' w1 hown hgrow hnil hun hun2
  go_wp2
  go_ret
  refine ⟨v', rfl, by simpa using hown, ((Below.refl _ w).alloc (Nat.le_refl _) _).grown hgrow (by simp) (by intro k hk; simp [Value.ownBlock] at hk; omega), fun b o hb ho => ?_⟩
  by_cases hbb : b = w.heap.size
  · rw [hun2 b (by omega)] at ho
    exact unfrozen_push (w := w) (unfrozen_cells (.inl rfl)) rfl b o (.inl hb) ho
  · exact hun b o (by omega) ho

theorem clok_30 {R : Type} : ShOk (R := R) Try.prog glob raw 30 sh30 := by
  intro av es K r h
  unfold sh30 at h
  split at h
  · exact clone_ok (el := 4) (Value.bool) rfl bool_val bool_ind (fun a w => enter_of Try.func30 rfl rfl a w) cl30_nil cl30_some h
  · exact no_some h

set_option maxHeartbeats 2000000 in
set_option maxRecDepth 100000 in
theorem cl35_nil (n c : Nat) (w : World) : Calls Try.prog 35 #[.slice none n c] w fun e w' => e = .returned (.slice none 0 0) ∧ w' = w := by
  have tst : Try.prog.underlying 41 = some (.slice 3) := by kernel_rfl
  have qst : ∀ (w : World) (a : Option Addr) (n c n' c' : Nat), (binOp .eql 41 (.slice a n c) (.slice none n' c')).run Try.prog w = .ok (.bool a.isNone) w := fun w a n c n' c' => Lib.run_eql_slice_nil w _ _ a n c n' c' tst
  go_enter Try.func35, Try.ntmps35
  go_wp2
  go_ret
  exact ⟨rfl, rfl⟩

set_option maxHeartbeats 2000000 in
set_option maxRecDepth 100000 in
theorem cl35_some (ad : Addr) (c : Nat) (xs : List Int) (w : World) (hs : xs.length < SMALL) (hc : ∀ j u, (xs.map (Value.int .i64))[j]? = some u → w.cell? (ad.add j) = some u) :
    Calls Try.prog 35 #[.slice (some ad) xs.length c] w fun e w' => ∃ v', e = .returned v' ∧ w'.ownsRow w.heap.size 3 1 v' xs.length (xs.map (Value.int .i64)) ∧ Below w.heap.size w w' ∧ ∀ b o, w.heap.size ≤ b → w'.heap[b]? = some o → Unfrozen o := by
  have tst : Try.prog.underlying 41 = some (.slice 3) := by kernel_rfl
  have qst : ∀ (w : World) (a : Option Addr) (n c n' c' : Nat), (binOp .eql 41 (.slice a n c) (.slice none n' c')).run Try.prog w = .ok (.bool a.isNone) w := fun w a n c n' c' => Lib.run_eql_slice_nil w _ _ a n c n' c' tst
  have ust : ∀ w, Sem.run Try.prog (underlying 41) w = .ok (TypeDesc.slice 3) w := run_underlying tst
  have A : Aside (∀ j u, (xs.map (Value.int .i64))[j]? = some u → w.cell? (ad.add j) = some u) := hc
  clear hc
  obtain ⟨i0, hi, hz0, hz1, hz2⟩ := info_parts (P := Try.prog) (e := 3) (z := .int .i64 0) (size := 1) (bytes := 8) (by kernel_rfl)
  go_enter Try.func35, Try.ntmps35
  go_wp2_with (at_builtin; refine wpList_append_un _ rfl _ _ 41 rfl w.heap.size 3 i0 (.int .i64 0) 8 tst hi hz0 hz1 hz2 rfl (by decide) (by decide) (by kernel_rfl) (by kernel_rfl) _ rfl (World.ownsRow_made w #[] 0 (Nat.le_refl _) (Nat.zero_le _) rfl) ad xs.length c (xs.map (Value.int .i64)) rfl ?qc1 ?qc2 ?qc3 ?qc5 ?qc6 ?_)
  case qc1 => simp
  case qc2 =>
    intro j u hj
    exact Lib.cell?_alloc_some _ (A.out j u hj)
  case qc3 => intro u hu; obtain ⟨x, _, rfl⟩ := List.mem_map.1 hu; rfl
  case qc5 => exact hs
  case qc6 => simp
  intro v' w1 hown hgrow hnil hun hun2
  go_wp2
  go_ret
  refine ⟨v', rfl, by simpa using hown, ((Below.refl _ w).alloc (Nat.le_refl _) _).grown hgrow (by simp) (by intro k hk; simp [Value.ownBlock] at hk; omega), fun b o hb ho => ?_⟩
  by_cases hbb : b = w.heap.size
  · rw [hun2 b (by omega)] at ho
    exact unfrozen_push (w := w) (unfrozen_cells (.inl rfl)) rfl b o (.inl hb) ho
  · exact hun b o (by omega) ho

theorem clok_35 {R : Type} : ShOk (R := R) Try.prog glob raw 35 sh35 := by
  intro av es K r h
  unfold sh35 at h
  split at h
  · exact clone_ok (el := 3) (Value.int .i64) rfl u8_val u8_ind (fun a w => enter_of Try.func35 rfl rfl a w) cl35_nil cl35_some h
  · exact no_some h

end Go.Ab.T
