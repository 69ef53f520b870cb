/- cause.is, cause.kindOf, errors.Unwrap: by their own texts. -/
import Derived.Test.YtpflljjomcbnmaaDoorCauTR
import Derived.Test.YtpflljjomcbnmaaDoorPrimX
import Derived.BigQuiet
namespace Go.Ab.T
open Go Go.Ab Go.Proofs Go.RowKit Go.Lib Go.Extern Go.Stop
set_option linter.unusedVariables false
set_option linter.unusedSimpArgs false

theorem noUwNil (xT : TypeId) (w : World) : (Instr.typeAssert .nilIface xT 67 true).run Tryd.prog w = .ok (.tuple #[.nilIface, .bool false]) w := by kernel_rfl
theorem _root_.Go.Ab.Ext.drewN {w w' : World} (h : Ext w w') (n : Nat) : Ext w (w'.drewN n) := ⟨h.size, h.block, h.os, h.tape, h.output⟩

/-- a node's cells -/
theorem node_cells {w0 w : World} (hE : Ext w0 w) {b : Nat} {pre post : List Int} {c : Value} (h : Lies w0 b 0 (intsV pre ++ c :: intsV post)) (hp : pre.length = 1) : ∃ n, pre = [n] ∧ w.cell? ⟨b, 0, none⟩ = some (.int .i64 n) ∧ w.cell? ⟨b, 1, none⟩ = some c := by
  match pre, hp with
  | [n], _ => exact ⟨n, rfl, hE.cell (h 0 _ rfl), hE.cell (h 1 _ rfl)⟩

set_option maxHeartbeats 8000000 in
set_option maxRecDepth 100000 in
theorem uw_walk {ok : Nat → Prop} {w : World} (x : Err) (v : Value) (hx : RtE w ok x [v]) (hfit : Err.fit [] [(43, 1, 1), (52, 1, 0)] x = true) (Φ : Ending → World → Prop)
    (H : ∀ c, RtE w ok (Err.inner x) [c] → Φ (.returned c) w) : Calls Tryd.prog 17 #[v] w Φ := by
  have A : Hid (∀ c, RtE w ok (Err.inner x) [c] → Φ (.returned c) w) := ⟨H⟩
  clear H
  have hN := noUwNil
  have u43 := hasUw43
  have u52 := hasUw52
  have m43 := mUw43
  have m52 := mUw52
  cases x with
  | nil =>
    have hx : [v] = [Value.nilIface] := hx
    simp only [List.cons.injEq, and_true] at hx
    subst hx
    go_enter Tryd.func17, Tryd.ntmps17
    go_wp2
    exact A.out _ rfl
  | raw t z => simp [Err.fit] at hfit
  | leaf t xs => exact absurd (fit_leaf hfit) List.not_mem_nil
  | wrap u pre y post =>
    obtain ⟨b, c, hv, hb1, hb2, hb3, hb4, hy⟩ := hx
    simp only [List.cons.injEq, and_true] at hv
    subst hv
    obtain ⟨hm, hfy⟩ := fit_wrap hfit
    simp only [List.mem_cons, List.not_mem_nil, or_false, Prod.mk.injEq] at hm
    have hp1 : pre.length = 1 := by omega
    obtain ⟨n, rfl, k0, k1⟩ := node_cells (Ext.refl w) hb4 hp1
    rcases hm with ⟨rfl, _, hp2⟩ | ⟨rfl, _, hp2⟩
    · go_enter Tryd.func17, Tryd.ntmps17
      go_wp2
      exact A.out _ hy
    · go_enter Tryd.func17, Tryd.ntmps17
      go_wp2
      exact A.out _ hy

theorem pok_17 {R : Type} : ShOk (R := R) Tryd.prog glob raw 17 sh17 := by
  intro av es K r h
  unfold sh17 at h
  split at h
  · rename_i x
    obtain ⟨hf, h⟩ := gd_some h
    refine ⟨_, _, ?_, h⟩
    rw [npF_nil]
    refine fn_pure (enter_of Tryd.func17 rfl rfl) fun E w vs hgl hin => ?_
    obtain ⟨v, q, rfl, h1, h2⟩ := hin.vals
    cases h2
    exact uw_walk x v h1 hf _ fun c hc => ⟨c, rfl, rfl, hc⟩
  · exact no_some h

theorem isFault (v : Value) (xT : TypeId) (w : World) : (Instr.typeAssert (.iface 52 v) xT 52 true).run Tryd.prog w = .ok (.tuple #[v, .bool true]) w := by kernel_rfl
set_option maxHeartbeats 8000000 in
set_option maxRecDepth 100000 in
theorem fis_walk {w : World} {b tb : Nat} {n m : Int} (hb : w.cell? ⟨b, 0, none⟩ = some (.int .i64 n)) (ht : w.cell? ⟨tb, 0, none⟩ = some (.int .i64 m)) :
    Calls Tryd.prog 46 #[.pointer (some ⟨b, 0, none⟩), .iface 52 (.pointer (some ⟨tb, 0, none⟩))] w fun e w' => e = .returned (.bool (m == n)) ∧ ∃ q, w' = w.drewN q := by
  have hF := isFault
  go_enter Tryd.func46, Tryd.ntmps46
  go_wp2
  go_quiet (fail)
  go_wp2
  go_ret
  exact ⟨rfl, nq, rfl⟩

set_option maxHeartbeats 8000000 in
set_option maxRecDepth 100000 in
theorem un_walk {w : World} {b : Nat} {c : Value} (hb : w.cell? ⟨b, 1, none⟩ = some c) : Calls Tryd.prog 47 #[.pointer (some ⟨b, 0, none⟩)] w fun e w' => e = .returned c ∧ w' = w := by
  go_enter Tryd.func47, Tryd.ntmps47
  go_wp2
  go_ret
  exact ⟨rfl, rfl⟩
theorem hasIs43 (v : Value) (xT : TypeId) (w : World) : (Instr.typeAssert (.iface 43 v) xT 83 true).run Tryd.prog w = .ok (.tuple #[.iface 43 v, .bool true]) w := run_typeAssert_hasB Tryd.underlying83 (by kernel_rfl) v xT w
theorem hasIs52 (v : Value) (xT : TypeId) (w : World) : (Instr.typeAssert (.iface 52 v) xT 83 true).run Tryd.prog w = .ok (.tuple #[.iface 52 v, .bool true]) w := run_typeAssert_hasB Tryd.underlying83 (by kernel_rfl) v xT w
theorem mIs43 (b : Nat) (w : World) : (Go.method 217 43 (.pointer (some ⟨b, 0, none⟩)) "Is").run Tryd.prog w = .ok (46, .pointer (some ⟨b, 0, none⟩)) w := by kernel_rfl
theorem mIs52 (b : Nat) (w : World) : (Go.method 217 52 (.pointer (some ⟨b, 0, none⟩)) "Is").run Tryd.prog w = .ok (46, .pointer (some ⟨b, 0, none⟩)) w := by kernel_rfl
theorem isComp52 : (Tryd.prog.info? 52).map (·.comparable) = some true := by kernel_rfl
theorem isSize47 : (Tryd.prog.info? 47).map (·.size) = some 2 := by kernel_rfl

set_option maxHeartbeats 8000000 in
set_option maxRecDepth 100000 in
theorem is_walk {ok : Nat → Prop} {w0 w : World} (hE : Ext w0 w) {tb : Nat} {m : Int} {cb : Array Value} {el : TypeId} (htb : w0.heap.size ≤ tb) (hblk : w.heap[tb]? = some (.cells cb el (0, 0))) (hm0 : w.cell? ⟨tb, 0, none⟩ = some (.int .i64 m))
    (x : Err) (v : Value) (hx : RtE w0 ok x [v]) (hfit : Err.fit [] [(43, 1, 1), (52, 1, 0)] x = true) (hnil : x.isNil = false) :
    Calls Tryd.prog 25 #[v, .iface 52 (.pointer (some ⟨tb, 0, none⟩)), .bool true] w fun e w' => e = .returned (.bool (Err.any m x)) ∧ Ext w w' := by
  obtain ⟨i, hi, hcmp⟩ := Option.map_eq_some_iff.1 isComp52
  obtain ⟨j, hj, hjs⟩ := Option.map_eq_some_iff.1 isSize47
  have i43 := hasIs43
  have i52 := hasIs52
  have mi43 := mIs43
  have mi52 := mIs52
  have u43 := hasUw43
  have u52 := hasUw52
  have m43 := mUw43
  have m52 := mUw52
  have hcb : cb.size ≠ 0 := by
    obtain ⟨c, e, fz, h1, h2⟩ := blk_of_cell hm0
    rw [hblk] at h1; cases h1; exact h2
  go_enter Tryd.func25, Tryd.ntmps25
  go_wp2
  refine LoopWp.loop ?_
  refine (?_ : ∀ (x' : Err) (v' c3 c4 c5 c6 c7 c8 c9 c10 c11 c12 c13 c14 c15 c16 c17 c18 c19 c20 c21 c22 c23 c24 c25 c26 c27 c28 c29 c30 c31 c32 c33 c34 c35 c36 c37 c38 c39 c40 c41 c42 c43 c44 c45 c46 c47 c48 c49 c50 c51 c52 c53 : Value) (W : World), Ext w W → RtE w0 ok x' [v'] → Err.fit [] [(43, 1, 1), (52, 1, 0)] x' = true → x'.isNil = false → Err.any m x' = Err.any m x → LoopWp _ _ _ ⟨#[v', .iface 52 (.pointer (some ⟨tb, 0, none⟩)), .bool true, c3, c4, c5, c6, c7, c8, c9, c10, c11, c12, c13, c14, c15, c16, c17, c18, c19, c20, c21, c22, c23, c24, c25, c26, c27, c28, c29, c30, c31, c32, c33, c34, c35, c36, c37, c38, c39, c40, c41, c42, c43, c44, c45, c46, c47, c48, c49, c50, c51, c52, c53], []⟩ W) x v _ _ _ _ _ _ _ _ _ _ _ _ _ _ _ _ _ _ _ _ _ _ _ _ _ _ _ _ _ _ _ _ _ _ _ _ _ _ _ _ _ _ _ _ _ _ _ _ _ _ _ _ (Ext.refl w) hx hfit hnil rfl
  intro x'
  induction x' with
  | nil => intro v' c3 c4 c5 c6 c7 c8 c9 c10 c11 c12 c13 c14 c15 c16 c17 c18 c19 c20 c21 c22 c23 c24 c25 c26 c27 c28 c29 c30 c31 c32 c33 c34 c35 c36 c37 c38 c39 c40 c41 c42 c43 c44 c45 c46 c47 c48 c49 c50 c51 c52 c53 W hW hx hfit hnil hany; simp [Err.isNil] at hnil
  | raw t z => intro v' c3 c4 c5 c6 c7 c8 c9 c10 c11 c12 c13 c14 c15 c16 c17 c18 c19 c20 c21 c22 c23 c24 c25 c26 c27 c28 c29 c30 c31 c32 c33 c34 c35 c36 c37 c38 c39 c40 c41 c42 c43 c44 c45 c46 c47 c48 c49 c50 c51 c52 c53 W hW hx hfit hnil hany; simp [Err.fit] at hfit
  | leaf u xs => intro v' c3 c4 c5 c6 c7 c8 c9 c10 c11 c12 c13 c14 c15 c16 c17 c18 c19 c20 c21 c22 c23 c24 c25 c26 c27 c28 c29 c30 c31 c32 c33 c34 c35 c36 c37 c38 c39 c40 c41 c42 c43 c44 c45 c46 c47 c48 c49 c50 c51 c52 c53 W hW hx hfit hnil hany; exact absurd (fit_leaf hfit) List.not_mem_nil
  | wrap u pre y post ih =>
    intro v' c3 c4 c5 c6 c7 c8 c9 c10 c11 c12 c13 c14 c15 c16 c17 c18 c19 c20 c21 c22 c23 c24 c25 c26 c27 c28 c29 c30 c31 c32 c33 c34 c35 c36 c37 c38 c39 c40 c41 c42 c43 c44 c45 c46 c47 c48 c49 c50 c51 c52 c53 W hW hx hfit hnil hany
    obtain ⟨b, c, hv, hb1, hb2, hb3, hb4, hy⟩ := hx
    simp only [List.cons.injEq, and_true] at hv
    subst hv
    obtain ⟨hm, hfy⟩ := fit_wrap hfit
    simp only [List.mem_cons, List.not_mem_nil, or_false, Prod.mk.injEq] at hm
    have hp1 : pre.length = 1 := by omega
    obtain ⟨n, rfl, k0, k1⟩ := node_cells (hE.trans hW) hb4 hp1
    have t0 := hW.cell hm0
    have tblk : W.heap[tb]? = some (.cells cb el (0, 0)) := (hW.block tb (cell_lt hm0)).trans hblk
    have hne : b ≠ tb := by omega
    have hf := fis_walk k0 t0
    have k1' : ∀ q, (W.drewN q).cell? ⟨b, 1, none⟩ = some c := fun _ => k1
    have hany' : (bif decide (n = m) then true else Err.any m y) = Err.any m x := by rw [← hany]; rfl
    obtain ⟨ca, ea, fa, hblkb, hca⟩ := blk_of_cell k0
    have e1 : ∀ W', Ext W W' → (binOp .eql 39 (.iface 52 (.pointer (some ⟨b, 0, none⟩))) (.iface 52 (.pointer (some ⟨tb, 0, none⟩)))).run Tryd.prog W' = .ok (.bool false) W' := fun W' h =>
      run_eql_iface_one Tryd.underlying39 Tryd.underlying52 hi hcmp hj (by rw [hjs]; decide) hne ((h.block b (cell_lt k0)).trans hblkb) ((h.block tb (cell_lt t0)).trans tblk) hca hcb
    have e52 := e1 W (Ext.refl W)
    have e43 := run_eql_iface_types (P := Tryd.prog) 43 52 (.pointer (some ⟨b, 0, none⟩)) (.pointer (some ⟨tb, 0, none⟩)) Tryd.underlying39 (by decide) W
    by_cases hnm : m = n
    · have hres : Err.any m x = true := by rw [← hany', decide_eq_true hnm.symm]; rfl
      have hbq : (m == n) = true := by simpa using hnm
      rw [hbq] at hf
      rcases hm with ⟨rfl, _, hp2⟩ | ⟨rfl, _, hp2⟩
      · refine LoopWp.step ?_
        go_wp2_with (go_at_call 46; refine hf.mono ?_; rintro e w' ⟨rfl, nq, rfl⟩)
        go_ret
        exact ⟨by rw [hres]; rfl, hW.drewN nq⟩
      · refine LoopWp.step ?_
        go_wp2_with (go_at_call 46; refine hf.mono ?_; rintro e w' ⟨rfl, nq, rfl⟩)
        go_ret
        exact ⟨by rw [hres]; rfl, hW.drewN nq⟩
    · have hbq : (m == n) = false := by simpa using hnm
      rw [hbq] at hf
      rw [decide_eq_false (fun h => hnm h.symm), cond_false] at hany'
      have hany2 : Hid (Err.any m y = Err.any m x) := ⟨hany'⟩
      clear hany' hany
      rcases hm with ⟨rfl, _, hp2⟩ | ⟨rfl, _, hp2⟩
      · rcases rte_form hy with ⟨rfl, rfl⟩ | ⟨hny, t, z, rfl⟩
        · have e0 := eql_nil_nil Tryd.underlying39 (P := Tryd.prog)
          refine LoopWp.step ?_
          go_wp2_with (first | (go_at_call 46; refine hf.mono ?_; rintro e w' ⟨rfl, nq, rfl⟩) | (go_at_call 47; refine (un_walk (k1' _)).mono ?_; rintro e w' ⟨rfl, rfl⟩))
          go_ret
          exact ⟨by rw [← hany2.out]; rfl, hW.drewN nq⟩
        · have e0 := eql_iface_nil Tryd.underlying39 t z (P := Tryd.prog)
          refine LoopWp.step ?_
          go_wp2_with (first | (go_at_call 46; refine hf.mono ?_; rintro e w' ⟨rfl, nq, rfl⟩) | (go_at_call 47; refine (un_walk (k1' _)).mono ?_; rintro e w' ⟨rfl, rfl⟩))
          exact ih _ _ _ _ _ _ _ _ _ _ _ _ _ _ _ _ _ _ _ _ _ _ _ _ _ _ _ _ _ _ _ _ _ _ _ _ _ _ _ _ _ _ _ _ _ _ _ _ _ _ _ _ _ (hW.drewN nq) hy hfy hny hany2.out
      · rcases rte_form hy with ⟨rfl, rfl⟩ | ⟨hny, t, z, rfl⟩
        · have e0 := eql_nil_nil Tryd.underlying39 (P := Tryd.prog)
          refine LoopWp.step ?_
          go_wp2_with (first | (go_at_call 46; refine hf.mono ?_; rintro e w' ⟨rfl, nq, rfl⟩) | (go_at_call 47; refine (un_walk (k1' _)).mono ?_; rintro e w' ⟨rfl, rfl⟩))
          go_ret
          exact ⟨by rw [← hany2.out]; rfl, hW.drewN nq⟩
        · have e0 := eql_iface_nil Tryd.underlying39 t z (P := Tryd.prog)
          refine LoopWp.step ?_
          go_wp2_with (first | (go_at_call 46; refine hf.mono ?_; rintro e w' ⟨rfl, nq, rfl⟩) | (go_at_call 47; refine (un_walk (k1' _)).mono ?_; rintro e w' ⟨rfl, rfl⟩))
          exact ih _ _ _ _ _ _ _ _ _ _ _ _ _ _ _ _ _ _ _ _ _ _ _ _ _ _ _ _ _ _ _ _ _ _ _ _ _ _ _ _ _ _ _ _ _ _ _ _ _ _ _ _ _ (hW.drewN nq) hy hfy hny hany2.out

theorem comp52 (w : World) : (callFunc 53 #[.agg #[.pointer (some ⟨1, 52, none⟩)]]).run Tryd.prog w = .ok (.value (.bool true)) w := by
  have h53 := @run_callFunc_extern Tryd.prog 53 _ (ReflectliteType.method fun t => do Rtype.noPackHeld "Comparable" t; pure (.bool (← typeInfo t).comparable)) Tryd.func53 (by kernel_rfl) (by kernel_rfl) (by kernel_rfl) (by kernel_rfl)
  rw [h53]
  have : ((ReflectliteType.method fun t => do Rtype.noPackHeld "Comparable" t; pure (.bool (← typeInfo t).comparable)) #[.agg #[.pointer (some ⟨1, 52, none⟩)]]).run Tryd.prog w = .ok (.bool true) w := by kernel_rfl
  rw [this]; rfl
theorem mComp (v : Value) (w : World) : (Go.method 217 73 v "Comparable").run Tryd.prog w = .ok (53, v) w := by kernel_rfl

set_option maxHeartbeats 8000000 in
set_option maxRecDepth 100000 in
theorem is_call {ok : Nat → Prop} {w0 w : World} (hE : Ext w0 w) {tb : Nat} {m : Int} {cb : Array Value} {el : TypeId} (htb : w0.heap.size ≤ tb) (hblk : w.heap[tb]? = some (.cells cb el (0, 0))) (hm0 : w.cell? ⟨tb, 0, none⟩ = some (.int .i64 m))
    (x : Err) (v : Value) (hx : RtE w0 ok x [v]) (hfit : Err.fit [] [(43, 1, 1), (52, 1, 0)] x = true) :
    Calls Tryd.prog 19 #[v, .iface 52 (.pointer (some ⟨tb, 0, none⟩))] w fun e w' => e = .returned (.bool (Err.any m x)) ∧ Ext w w' := by
  have hTO := @run_callFunc_extern Tryd.prog 24 _ ReflectliteType.typeOf Tryd.func24 (by kernel_rfl) (by kernel_rfl) (by kernel_rfl) (by kernel_rfl)
  have t52 := typeOf52
  have c52 := comp52
  have mC := mComp
  have hn52 := run_eql_iface_nil_left (P := Tryd.prog) w 52 (.pointer (some ⟨tb, 0, none⟩)) Tryd.underlying39
  have e52 := eql_iface_nil Tryd.underlying39 52 (.pointer (some ⟨tb, 0, none⟩)) (P := Tryd.prog)
  rcases rte_form hx with ⟨rfl, rfl⟩ | ⟨hn, t, z, rfl⟩
  · have e0 := eql_nil_nil Tryd.underlying39 (P := Tryd.prog)
    go_enter Tryd.func19, Tryd.ntmps19
    go_wp2
    go_ret
    exact ⟨rfl, Ext.refl w⟩
  · have e0 := eql_iface_nil Tryd.underlying39 t z (P := Tryd.prog)
    have hw := is_walk hE htb hblk hm0 x _ hx hfit hn
    go_enter Tryd.func19, Tryd.ntmps19
    go_wp2_with (go_at_call 25; refine hw.mono ?_; rintro e w' ⟨rfl, hq⟩)
    go_ret
    exact ⟨rfl, hq⟩

set_option maxHeartbeats 8000000 in
set_option maxRecDepth 100000 in
theorem isk_walk {ok : Nat → Prop} {w : World} {m : Int} (x : Err) (v : Value) (hx : RtE w ok x [v]) (hfit : Err.fit [] [(43, 1, 1), (52, 1, 0)] x = true) :
    Calls Tryd.prog 15 #[v, .int .i64 m] w fun e w' => e = .returned (.bool (Err.isK m x)) ∧ Ext w w' := by
  by_cases hm : m = 0
  · subst hm
    go_enter Tryd.func15, Tryd.ntmps15
    go_wp2
    go_ret
    exact ⟨rfl, Ext.refl w⟩
  · have hmd : decide (m = 0) = false := decide_eq_false hm
    have hE : Ext w (w.alloc (.cells #[.int .i64 m, .nilIface] 47)) := (Ext.refl w).alloc _
    have hw := is_call (ok := ok) hE (tb := w.heap.size) (m := m) (cb := #[.int .i64 m, .nilIface]) (el := 47) (Nat.le_refl _) (by unfold World.alloc; exact Array.getElem?_push_size) (by rw [World.cell?_alloc_at _ _ _ _ (by simp)]; rfl) x v hx hfit
    go_enter Tryd.func15, Tryd.ntmps15
    go_wp2_with (go_at_call 19; refine hw.mono ?_; rintro e w' ⟨rfl, hq⟩)
    go_ret
    have hb : (m != 0) = true := by simpa using hm
    exact ⟨by show Ending.returned (Value.bool (m != 0 && Err.any m x)) = _; rw [hb]; unfold Err.isK; rw [hmd]; rfl, hE.trans hq⟩

theorem pok_15 {R : Type} : ShOk (R := R) Tryd.prog glob raw 15 sh15 := by
  intro av es K r h
  unfold sh15 at h
  split at h
  · rename_i x m
    obtain ⟨hf, h⟩ := gd_some h
    refine ⟨_, _, ?_, h⟩
    rw [npF_nil]
    refine fn_ext (enter_of Tryd.func15 rfl rfl) fun E w vs hgl hin => ?_
    obtain ⟨v, q, rfl, h1, u, q2, rfl, h2, h3⟩ := hin.vals
    cases h3
    obtain ⟨rfl, hk⟩ := relV_int.1 h2
    refine Calls.mono (isk_walk x v h1 hf) ?_
    rintro e w' ⟨rfl, hq⟩
    exact ⟨_, rfl, hq, relV_bool.2 rfl⟩
  · exact no_some h

theorem ext_set {w w1 : World} (h : Ext w w1) {tb : Nat} (ht : w.heap.size ≤ tb) (v : Value) : Ext w (w1.setCell ⟨tb, 0, none⟩ v) :=
  ⟨by rw [setCell_size]; exact h.size, fun b hb => by rw [setCell_same (by omega)]; exact h.block b hb, h.os, h.tape, h.output⟩
theorem set_cell {w1 : World} {tb : Nat} {el : TypeId} {u v : Value} {w' : World} (hb : w1.heap[tb]? = some (.cells #[u] el (0, 0))) (h : Ext (w1.setCell ⟨tb, 0, none⟩ v) w') : w'.cell? ⟨tb, 0, none⟩ = some v := by
  have h1 := setCell_blk (v := v) hb
  refine h.cell ?_
  unfold World.cell?
  simp [h1]
theorem blk_cell {w : World} {tb : Nat} {el : TypeId} {u : Value} (hb : w.heap[tb]? = some (.cells #[u] el (0, 0))) : w.cell? ⟨tb, 0, none⟩ = some u ∧ w.frozen? ⟨tb, 0, none⟩ = false := by
  unfold World.cell? World.frozen?
  simp [hb]

set_option maxHeartbeats 8000000 in
set_option maxRecDepth 100000 in
theorem kind_walk {ok : Nat → Prop} {w : World} (hg : w.cell? ⟨0, 0, none⟩ = some (.iface 73 (.agg #[.pointer (some ⟨1, 39, none⟩)]))) (x : Err) (v : Value) (hx : RtE w ok x [v]) (hfit : Err.fit [] [(43, 1, 1), (52, 1, 0)] x = true) :
    Calls Tryd.prog 14 #[v] w fun e w' => e = .returned (.int .i64 (Err.num 0 x)) ∧ Ext w w' := by
  obtain ⟨w1, hw1⟩ : ∃ w1, w1 = (w.alloc (.cells #[.pointer none] 52)).alloc (.cells #[.pointer none] 43) := ⟨_, rfl⟩
  have hE1 : Ext w w1 := by rw [hw1]; exact ((Ext.refl w).alloc _).alloc _
  have hbf : w1.heap[w.heap.size]? = some (.cells #[.pointer none] 52 (0, 0)) := by
    rw [hw1]; unfold World.alloc; simp [Array.getElem?_push]
  have hbp : w1.heap[w.heap.size + 1]? = some (.cells #[.pointer none] 43 (0, 0)) := by
    rw [hw1]
    show ((w.heap.push _).push _)[w.heap.size + 1]? = _
    rw [Array.getElem?_push, if_pos (by simp)]
  have hg1 := hE1.cell hg
  have hx1 := hE1.rte hx
  cases x with
  | nil =>
    have hx : [v] = [Value.nilIface] := hx
    simp only [List.cons.injEq, and_true] at hx
    subst hx
    have e0 := eql_nil_nil Tryd.underlying39 (P := Tryd.prog)
    clear hx1
    subst hw1
    go_enter Tryd.func14, Tryd.ntmps14
    go_wp2
    go_ret
    exact ⟨rfl, hE1⟩
  | raw t z => simp [Err.fit] at hfit
  | leaf t xs => exact absurd (fit_leaf hfit) List.not_mem_nil
  | wrap u pre y post =>
    obtain ⟨b, c, hv, hb1, hb2, hb3, hb4, hy⟩ := hx
    simp only [List.cons.injEq, and_true] at hv
    subst hv
    obtain ⟨hm, hfy⟩ := fit_wrap hfit
    simp only [List.mem_cons, List.not_mem_nil, or_false, Prod.mk.injEq] at hm
    have hp1 : pre.length = 1 := by omega
    obtain ⟨n, rfl, k0, k1⟩ := node_cells (Ext.refl w) hb4 hp1
    have e0 := eql_iface_nil Tryd.underlying39 u (.pointer (some ⟨b, 0, none⟩)) (P := Tryd.prog)
    obtain ⟨p1, p2⟩ := blk_cell hbp
    rcases hm with ⟨rfl, _, hp2⟩ | ⟨rfl, _, hp2⟩
    · have hA := as_call43 (ok := ok) (tb := w.heap.size + 1) hg1 p1 p2 _ _ hx1 hfit (fun e w' => e = .returned (.bool true) ∧ Ext w w' ∧ w'.cell? ⟨w.heap.size + 1, 0, none⟩ = some (.pointer (some ⟨b, 0, none⟩)) ∧ w'.cell? ⟨b, 0, none⟩ = some (.int .i64 n))
        (fun w' h _ => by simp [Err.find] at h)
        (fun y' b' w' h1 h2 h3 h4 h5 => by
          have hbb := h4 _ rfl
          rw [← hbb] at h5
          have hE2 : Ext w w' := (ext_set hE1 (by omega) _).trans h5
          exact ⟨rfl, hE2, set_cell hbp h5, hE2.cell k0⟩)
      obtain ⟨i, hi, hcmp⟩ := Option.map_eq_some_iff.1 (show (Tryd.prog.info? 43).map (·.comparable) = some true by kernel_rfl)
      obtain ⟨j, hj, hjs⟩ := Option.map_eq_some_iff.1 (show (Tryd.prog.info? 49).map (·.size) = some 3 by kernel_rfl)
      have hes := fun W => run_eql_iface_ptr_same (P := Tryd.prog) W ⟨b, 0, none⟩ Tryd.underlying39 Tryd.underlying43 hi hcmp hj
      clear hx1
      subst hw1
      go_enter Tryd.func14, Tryd.ntmps14
      go_wp2_with (go_at_call 16; refine hA.mono ?_; rintro e w' ⟨rfl, q1, q2, q3⟩)
      go_ret
      exact ⟨rfl, q1⟩
    · have hA := as_call43 (ok := ok) (tb := w.heap.size + 1) hg1 p1 p2 _ _ hx1 hfit (fun e w' => (e = .returned (.bool false) ∨ e = .returned (.bool true) ∧ ∃ b', w'.cell? ⟨w.heap.size + 1, 0, none⟩ = some (.pointer (some ⟨b', 0, none⟩))) ∧ Hid (Ext w w' ∧ w'.heap[w.heap.size]? = some (.cells #[.pointer none] 52 (0, 0))))
        (fun w' h hE => ⟨.inl rfl, ⟨hE1.trans hE, (hE.block _ (cell_lt (blk_cell hbf).1)).trans hbf⟩⟩)
        (fun y' b' w' h1 h2 h3 h4 h5 => ⟨.inr ⟨rfl, b', set_cell hbp h5⟩, ⟨(ext_set hE1 (by omega) _).trans h5, (h5.block _ (by rw [setCell_size]; exact cell_lt (blk_cell hbf).1)).trans ((setCell_same (by omega)).trans hbf)⟩⟩)
      have hB : ∀ w', Hid (Ext w w' ∧ w'.heap[w.heap.size]? = some (.cells #[.pointer none] 52 (0, 0))) → Calls Tryd.prog 16 #[.iface 52 (.pointer (some ⟨b, 0, none⟩)), .iface 53 (.pointer (some ⟨w.heap.size, 0, none⟩))] w' fun e w'' =>
          e = .returned (.bool true) ∧ Hid (Ext w w'') ∧ w''.cell? ⟨w.heap.size, 0, none⟩ = some (.pointer (some ⟨b, 0, none⟩)) ∧ w''.cell? ⟨b, 0, none⟩ = some (.int .i64 n) := by
        rintro w' ⟨hE, hq⟩
        obtain ⟨r1, r2⟩ := blk_cell hq
        refine as_call52 (ok := ok) (tb := w.heap.size) (hE.cell hg) r1 r2 _ _ (hE.rte (x := .wrap 52 [n] y post) ⟨b, c, rfl, hb1, hb2, hb3, hb4, hy⟩) hfit _ (fun w'' h _ => by simp [Err.find] at h) (fun y' b' w'' h1 h2 h3 h4 h5 => ?_)
        have hbb := h4 _ rfl
        rw [← hbb] at h5
        have hE2 : Ext w w'' := (ext_set hE (Nat.le_refl _) _).trans h5
        exact ⟨rfl, ⟨hE2⟩, set_cell hq h5, hE2.cell k0⟩
      have ety := fun vx vy W => run_eql_iface_types (P := Tryd.prog) 43 52 vx vy Tryd.underlying39 (by decide) W
      clear hx1
      subst hw1
      go_enter Tryd.func14, Tryd.ntmps14
      go_wp2_with (first | (go_at_call 16; guard_target = Calls _ _ #[_, Value.iface 45 _] _ _; refine hA.mono ?_; rintro e w' ⟨(rfl | ⟨rfl, b', q2⟩), q1⟩) | (go_at_call 16; guard_target = Calls _ _ #[_, Value.iface 53 _] _ _; refine (hB _ (by assumption)).mono ?_; rintro e w'' ⟨rfl, z1, z2, z3⟩))
      · go_ret
        exact ⟨rfl, z1.out⟩
      · go_ret
        exact ⟨rfl, z1.out⟩

theorem pok_14 {R : Type} : ShOk (R := R) Tryd.prog glob raw 14 sh14 := by
  intro av es K r h
  unfold sh14 at h
  split at h
  · rename_i x
    obtain ⟨hf, h⟩ := gd_some h
    refine ⟨_, _, ?_, h⟩
    rw [npF_nil]
    refine fn_ext (enter_of Tryd.func14 rfl rfl) fun E w vs hgl hin => ?_
    obtain ⟨v, q, rfl, h1, h2⟩ := hin.vals
    cases h2
    obtain ⟨_, _, cs, g2, g3, _⟩ := hin.glob 0 _ (by rw [hgl]; exact glob0)
    have g3 : cs = [Value.iface 73 (.agg #[.pointer (some ⟨1, 39, none⟩)])] := g3
    subst g3
    have hk : inK .i64 (Err.num 0 x) = true := by
      have h1 : RtE w (E.ok (tbOf [])) x [v] := h1
      cases x with
      | nil => rfl
      | raw t z => rfl
      | leaf t xs => exact absurd (fit_leaf hf) List.not_mem_nil
      | wrap u pre y post =>
        obtain ⟨hm, _⟩ := fit_wrap hf
        simp only [List.mem_cons, List.not_mem_nil, or_false, Prod.mk.injEq] at hm
        have hp1 : pre.length = 1 := by omega
        obtain ⟨b, c, hv, hb1, hb2, hb3, hb4, hy⟩ := h1
        match pre, hp1, hb3 with
        | [n], _, hb3 => exact hb3 n (by simp)
    refine Calls.mono (kind_walk (g2 0 _ rfl) x v h1 hf) ?_
    rintro e w' ⟨rfl, hq⟩
    exact ⟨_, rfl, hq, relV_int.2 ⟨rfl, hk⟩⟩
  · exact no_some h
end Go.Ab.T
