/- WrdTP: a part of the proofs of this seat's statements. -/
import Derived.Test.YtlhinijgdffcdaaDoorWrdTA
import Derived.Test.YtlhinijgdffcdaaDoorPrimX
import Derived.WalkKit
import Derived.LaidEql
import Derived.Stop.Asserts
import Derived.RowKitTokens
import Derived.Lib.Walk
/- errors.As, by its own text: what a call comes to. -/
namespace Go.Ab.T
open Go Go.Ab Go.Proofs Go.RowKit Go.Lib Go.Extern Go.Stop
set_option linter.unusedVariables false
set_option linter.unusedSimpArgs false

theorem rlm (z : Sem Value) (f : TypeId → Addr → Nat → Nat → Sem Value) (v : Value) :
    ReflectliteValue.method z f #[v] = (do match ← ReflectliteValue.parts v with | none => z | some (t, a, fl) => f t a fl (fl % 32)) := rfl
theorem rls (v x : Value) : ReflectliteValue.set #[v, x] = (do
    let (some (dst, a, fl), some (src, b, _)) := (← ReflectliteValue.parts v, ← ReflectliteValue.parts x)
      | unsupported (.noEntry "extern/(internal/reflectlite.Value).Set.zeroValue")
    if fl / ReflectliteValue.flagAddr % 2 == 0 then unsupported (.noEntry "extern/(internal/reflectlite.Value).Set.unaddressable")
    let val ← loadVar src b
    if ← Rtype.directlyAssignable dst src then storeVar dst a val
    else if ← Rtype.implements dst src then
      if (← Rtype.kind src) == 20 then
        match val with
        | .nilIface => unsupported (.noEntry "extern/reflectlite: a nil value of one interface type handed on as a value of another")
        | _ => storeVar dst a val
      else storeVar dst a (.iface src val)
    else panicString ("reflectlite.Set: value of type " ++ (← Rtype.spelt src) ++ " is not assignable to type " ++ (← Rtype.spelt dst))
    pure (.tuple #[])) := rfl

theorem typeOf82 (v : Value) (w : World) : (ReflectliteType.typeOf #[.iface 82 v]).run Tryd.prog w = .ok (.iface 110 (.agg #[.pointer (some ⟨1, 82, none⟩)])) w := by kernel_rfl
theorem noAs82 (v : Value) (xT : TypeId) (w : World) : (Instr.typeAssert (.iface 82 v) xT 115 true).run Tryd.prog w = .ok (.tuple #[.nilIface, .bool false]) w := run_typeAssert_lacksB Tryd.underlying115 (by kernel_rfl) (by kernel_rfl) v xT w
theorem assignable82_82 (w : World) : (ReflectliteType.relation "AssignableTo" ReflectliteType.assignableTo #[.agg #[.pointer (some ⟨1, 82, none⟩)], .iface 110 (.agg #[.pointer (some ⟨1, 82, none⟩)])]).run Tryd.prog w = .ok (.bool true) w := by kernel_rfl
theorem typeOf93 (v : Value) (w : World) : (ReflectliteType.typeOf #[.iface 93 v]).run Tryd.prog w = .ok (.iface 110 (.agg #[.pointer (some ⟨1, 93, none⟩)])) w := by kernel_rfl
theorem noAs93 (v : Value) (xT : TypeId) (w : World) : (Instr.typeAssert (.iface 93 v) xT 115 true).run Tryd.prog w = .ok (.tuple #[.nilIface, .bool false]) w := run_typeAssert_lacksB Tryd.underlying115 (by kernel_rfl) (by kernel_rfl) v xT w
theorem hasUw93 (v : Value) (xT : TypeId) (w : World) : (Instr.typeAssert (.iface 93 v) xT 118 true).run Tryd.prog w = .ok (.tuple #[.iface 93 v, .bool true]) w := run_typeAssert_hasB Tryd.underlying118 (by kernel_rfl) v xT w
theorem mUw93 (b : Nat) (w : World) : (Go.method 252 93 (.pointer (some ⟨b, 0, none⟩)) "Unwrap").run Tryd.prog w = .ok (82, .pointer (some ⟨b, 0, none⟩)) w := by kernel_rfl
theorem assignable93_82 (w : World) : (ReflectliteType.relation "AssignableTo" ReflectliteType.assignableTo #[.agg #[.pointer (some ⟨1, 93, none⟩)], .iface 110 (.agg #[.pointer (some ⟨1, 82, none⟩)])]).run Tryd.prog w = .ok (.bool false) w := by kernel_rfl
theorem mAsg (h : Value) (w : World) : (Go.method 252 110 (.agg #[h]) "AssignableTo").run Tryd.prog w = .ok (87, .agg #[h]) w := by kernel_rfl
theorem mKind (h : Value) (w : World) : (Go.method 252 110 (.agg #[h]) "Kind").run Tryd.prog w = .ok (77, h) w := by kernel_rfl
theorem mElem (h : Value) (w : World) : (Go.method 252 110 (.agg #[h]) "Elem").run Tryd.prog w = .ok (89, .agg #[h]) w := by kernel_rfl
theorem mImpl (h : Value) (w : World) : (Go.method 252 110 (.agg #[h]) "Implements").run Tryd.prog w = .ok (90, .agg #[h]) w := by kernel_rfl
theorem valueOf84 (t : Addr) (w : World) : (ReflectliteValue.unpack (.iface 84 (.pointer (some t)))).run Tryd.prog w = .ok (.agg #[.pointer (some ⟨1, 84, none⟩), .pointer (some ⟨w.heap.size, 0, none⟩), .int .u64 150]) (w.alloc (.cells #[.pointer (some t)] 84)) := by kernel_rfl
theorem type84 (a : Addr) (w : World) : (ReflectliteValue.methodAny (ReflectliteValue.valueError "reflectlite.Value.Type" 0) (fun t _ _ _ => ReflectliteType.toType t) #[.agg #[.pointer (some ⟨1, 84, none⟩), .pointer (some a), .int .u64 150]]).run Tryd.prog w = .ok (.iface 110 (.agg #[.pointer (some ⟨1, 84, none⟩)])) w := by kernel_rfl
theorem kind84 (w : World) : ((ReflectliteType.abiMethod fun t => (fun a : Nat => Value.int IntKind.u8 (a : Int)) <$> Rtype.kind t) #[.pointer (some ⟨1, 84, none⟩)]).run Tryd.prog w = .ok (.int .u8 22) w := by kernel_rfl
theorem kind82 (w : World) : ((ReflectliteType.abiMethod fun t => (fun a : Nat => Value.int IntKind.u8 (a : Int)) <$> Rtype.kind t) #[.pointer (some ⟨1, 82, none⟩)]).run Tryd.prog w = .ok (.int .u8 22) w := by kernel_rfl
theorem parts84 (a : Addr) (w : World) : (ReflectliteValue.parts (.agg #[.pointer (some ⟨1, 84, none⟩), .pointer (some a), .int .u64 150])).run Tryd.prog w = .ok (some (84, a, 150)) w := by kernel_rfl
theorem isNil84 (a p : Addr) (W : World) (ha : W.cell? a = some (.pointer (some p))) :
    (ReflectliteValue.method (ReflectliteValue.valueError "reflectlite.Value.IsNil" 0) ReflectliteValue.isNil #[.agg #[.pointer (some ⟨1, 84, none⟩), .pointer (some a), .int .u64 150]]).run Tryd.prog W = .ok (.bool false) W := by
  rw [rlm]
  simp only [Sem.run_bind, parts84, Result.andThen]
  simp [ReflectliteValue.isNil, loadVar, isAgg, underlying, Tryd.underlying84, ha, Result.andThen]
theorem elem84 (w : World) : (ReflectliteType.method ReflectliteType.elem #[.agg #[.pointer (some ⟨1, 84, none⟩)]]).run Tryd.prog w = .ok (.iface 110 (.agg #[.pointer (some ⟨1, 82, none⟩)])) w := by kernel_rfl
theorem implements82 (w : World) : (ReflectliteType.relation "Implements" ReflectliteType.implements_ #[.agg #[.pointer (some ⟨1, 82, none⟩)], .iface 110 (.agg #[.pointer (some ⟨1, 55, none⟩)])]).run Tryd.prog w = .ok (.bool true) w := by kernel_rfl
theorem valueOf82 (e : Addr) (w : World) : (ReflectliteValue.unpack (.iface 82 (.pointer (some e)))).run Tryd.prog w = .ok (.agg #[.pointer (some ⟨1, 82, none⟩), .pointer (some ⟨w.heap.size, 0, none⟩), .int .u64 150]) (w.alloc (.cells #[.pointer (some e)] 82)) := by kernel_rfl
theorem elemOf84 (w : World) : (Rtype.elem? 84).run Tryd.prog w = .ok (some 82) w := by kernel_rfl
theorem mk82 (p : Addr) (w : World) : (ReflectliteValue.mk 82 p ReflectliteValue.flagAddr).run Tryd.prog w = .ok (.agg #[.pointer (some ⟨1, 82, none⟩), .pointer (some p), .int .u64 406]) w := by kernel_rfl
theorem elemV84 (a p : Addr) (W : World) (ha : W.cell? a = some (.pointer (some p))) :
    (ReflectliteValue.method (ReflectliteValue.valueError "reflectlite.Value.Elem" 0) ReflectliteValue.elem #[.agg #[.pointer (some ⟨1, 84, none⟩), .pointer (some a), .int .u64 150]]).run Tryd.prog W
      = .ok (.agg #[.pointer (some ⟨1, 82, none⟩), .pointer (some p), .int .u64 406]) W := by
  rw [rlm]
  simp only [Sem.run_bind, parts84, Result.andThen]
  simp [ReflectliteValue.elem, loadVar, isAgg, underlying, Tryd.underlying84, ha, Result.andThen, elemOf84, mk82]
theorem parts82a (a : Addr) (w : World) : (ReflectliteValue.parts (.agg #[.pointer (some ⟨1, 82, none⟩), .pointer (some a), .int .u64 406])).run Tryd.prog w = .ok (some (82, a, 406)) w := by kernel_rfl
theorem parts82 (a : Addr) (w : World) : (ReflectliteValue.parts (.agg #[.pointer (some ⟨1, 82, none⟩), .pointer (some a), .int .u64 150])).run Tryd.prog w = .ok (some (82, a, 150)) w := by kernel_rfl
theorem direct82 (w : World) : (Rtype.directlyAssignable 82 82).run Tryd.prog w = .ok true w := by kernel_rfl
theorem size82 (w : World) : (sizeOf 82).run Tryd.prog w = .ok 1 w := by kernel_rfl
theorem set82 (ta b e : Addr) (old : Value) (W : World) (hb : W.cell? b = some (.pointer (some e))) (ht : W.cell? ta = some old) (hf : W.frozen? ta = false) :
    (ReflectliteValue.set #[.agg #[.pointer (some ⟨1, 82, none⟩), .pointer (some ta), .int .u64 406], .agg #[.pointer (some ⟨1, 82, none⟩), .pointer (some b), .int .u64 150]]).run Tryd.prog W
      = .ok (.tuple #[]) (W.setCell ta (.pointer (some e))) := by
  rw [rls]
  simp only [Sem.run_bind, parts82a, parts82, Result.andThen]
  simp [ReflectliteValue.flagAddr, loadVar, isAgg, underlying, Tryd.underlying82, hb, Result.andThen, direct82, storeVar, Value.cells, storeCells, Addr.add]
  rw [run_store Tryd.prog W ta _ _ (by rfl)]
  simp [ht, hf]
set_option maxHeartbeats 8000000 in
set_option maxRecDepth 100000 in
/-- one target: the first error of type 82 in a chain -/
theorem as_walk82 {ok : Nat → Prop} {w0 w : World} {tb vb : Nat} {old : Value} (hE : Ext w0 w) (ht0 : w.cell? ⟨tb, 0, none⟩ = some old) (hf0 : w.frozen? ⟨tb, 0, none⟩ = false) (hv0 : w.cell? ⟨vb, 0, none⟩ = some (.pointer (some ⟨tb, 0, none⟩)))
    (x : Err) (v : Value) (hx : RtE w0 ok x [v]) (hfit : Err.fit [(82, 1)] [(93, 0, 0)] x = true) (hnil : x.isNil = false)
    (Φ : Ending → World → Prop) (H0 : Err.find 82 x = none → Φ (.returned (.bool false)) (w.alloc (.cells #[.pointer (some ⟨1, 84, none⟩), .pointer (some ⟨vb, 0, none⟩), .int .u64 150] 99)))
    (H1 : ∀ y b, Err.find 82 x = some y → RtE w0 ok y [.iface 82 (.pointer (some ⟨b, 0, none⟩))] → Err.fit [(82, 1)] [(93, 0, 0)] y = true → (∀ z, v = .iface 82 z → z = .pointer (some ⟨b, 0, none⟩)) →
      Φ (.returned (.bool true)) (((w.setCell ⟨tb, 0, none⟩ (.pointer (some ⟨b, 0, none⟩))).alloc (.cells #[.pointer (some ⟨1, 84, none⟩), .pointer (some ⟨vb, 0, none⟩), .int .u64 150] 99)).alloc (.cells #[.pointer (some ⟨b, 0, none⟩)] 82))) :
    Calls Tryd.prog 59 #[v, .iface 84 (.pointer (some ⟨tb, 0, none⟩)), .agg #[.pointer (some ⟨1, 84, none⟩), .pointer (some ⟨vb, 0, none⟩), .int .u64 150], .iface 110 (.agg #[.pointer (some ⟨1, 82, none⟩)])] w Φ := by
  obtain ⟨A0, A1⟩ : Hid (Err.find 82 x = none → Φ (.returned (.bool false)) (w.alloc (.cells #[.pointer (some ⟨1, 84, none⟩), .pointer (some ⟨vb, 0, none⟩), .int .u64 150] 99))) ∧ Hid (∀ y b, Err.find 82 x = some y → RtE w0 ok y [.iface 82 (.pointer (some ⟨b, 0, none⟩))] → Err.fit [(82, 1)] [(93, 0, 0)] y = true → (∀ z, v = .iface 82 z → z = .pointer (some ⟨b, 0, none⟩)) →
      Φ (.returned (.bool true)) (((w.setCell ⟨tb, 0, none⟩ (.pointer (some ⟨b, 0, none⟩))).alloc (.cells #[.pointer (some ⟨1, 84, none⟩), .pointer (some ⟨vb, 0, none⟩), .int .u64 150] 99)).alloc (.cells #[.pointer (some ⟨b, 0, none⟩)] 82))) := ⟨⟨H0⟩, ⟨H1⟩⟩
  clear H0 H1
  have hTO := @run_callFunc_extern Tryd.prog 60 _ ReflectliteType.typeOf Tryd.func60 (by kernel_rfl) (by kernel_rfl) (by kernel_rfl) (by kernel_rfl)
  have hRA := @run_callFunc_extern Tryd.prog 87 _ (ReflectliteType.relation "AssignableTo" ReflectliteType.assignableTo) Tryd.func87 (by kernel_rfl) (by kernel_rfl) (by kernel_rfl) (by kernel_rfl)
  have hVO := @run_callFunc_extern Tryd.prog 56 _ (fun args => ReflectliteValue.unpack (args.getD 0 (.tuple #[]))) Tryd.func56 (by kernel_rfl) (by kernel_rfl) (by kernel_rfl) (by kernel_rfl)
  have hVE := @run_callFunc_extern Tryd.prog 61 _ (ReflectliteValue.method (ReflectliteValue.valueError "reflectlite.Value.Elem" 0) ReflectliteValue.elem) Tryd.func61 (by kernel_rfl) (by kernel_rfl) (by kernel_rfl) (by kernel_rfl)
  have hVS := @run_callFunc_extern Tryd.prog 62 _ ReflectliteValue.set Tryd.func62 (by kernel_rfl) (by kernel_rfl) (by kernel_rfl) (by kernel_rfl)
  have t82 := typeOf82
  have a82 := assignable82_82
  have n82 := noAs82
  have t93 := typeOf93
  have a93 := assignable93_82
  have n93 := noAs93
  have u93 := hasUw93
  have m93 := mUw93
  have mA := mAsg
  go_enter Tryd.func59, Tryd.ntmps59
  go_wp2
  refine LoopWp.loop ?_
  refine (?_ : ∀ (x' : Err) (v' c4 c5 c7 c8 c9 c10 c11 c12 c13 c14 c15 c16 c17 c18 c19 c20 c21 c22 c23 c24 c25 c26 c27 c28 c29 c30 c31 c32 c33 c34 c35 c36 c37 c38 c39 c40 c41 c42 c43 c44 c45 c46 c47 c48 c49 c50 c51 c52 c53 c54 c55 c56 c57 c58 c59 c60 c61 : Value), RtE w0 ok x' [v'] → Err.fit [(82, 1)] [(93, 0, 0)] x' = true → x'.isNil = false → Err.find 82 x' = Err.find 82 x → (∀ z, v = .iface 82 z → v' = .iface 82 z) → LoopWp _ _ _ ⟨#[v', .iface 84 (.pointer (some ⟨tb, 0, none⟩)), .agg #[.pointer (some ⟨1, 84, none⟩), .pointer (some ⟨vb, 0, none⟩), .int .u64 150], .iface 110 (.agg #[.pointer (some ⟨1, 82, none⟩)]), c4, c5, .pointer (some ⟨w.heap.size, 0, none⟩), c7, c8, c9, c10, c11, c12, c13, c14, c15, c16, c17, c18, c19, c20, c21, c22, c23, c24, c25, c26, c27, c28, c29, c30, c31, c32, c33, c34, c35, c36, c37, c38, c39, c40, c41, c42, c43, c44, c45, c46, c47, c48, c49, c50, c51, c52, c53, c54, c55, c56, c57, c58, c59, c60, c61], []⟩ (w.alloc (.cells #[.pointer (some ⟨1, 84, none⟩), .pointer (some ⟨vb, 0, none⟩), .int .u64 150] 99))) x v _ _ _ _ _ _ _ _ _ _ _ _ _ _ _ _ _ _ _ _ _ _ _ _ _ _ _ _ _ _ _ _ _ _ _ _ _ _ _ _ _ _ _ _ _ _ _ _ _ _ _ _ _ _ _ _ _ hx hfit hnil rfl (fun _ h => h)
  intro x'
  have hvlt : vb < w.heap.size := cell_lt hv0
  have htlt : tb < w.heap.size := cell_lt ht0
  have el := elemV84 ⟨vb, 0, none⟩ ⟨tb, 0, none⟩ (w.alloc (.cells #[.pointer (some ⟨1, 84, none⟩), .pointer (some ⟨vb, 0, none⟩), .int .u64 150] 99)) (by rw [World.cell?_alloc_lt _ _ ⟨vb, 0, none⟩ hvlt]; exact hv0)
  have vo := valueOf82
  have st := fun e : Nat => set82 ⟨tb, 0, none⟩ ⟨w.heap.size + 1, 0, none⟩ ⟨e, 0, none⟩ old ((w.alloc (.cells #[.pointer (some ⟨1, 84, none⟩), .pointer (some ⟨vb, 0, none⟩), .int .u64 150] 99)).alloc (.cells #[.pointer (some ⟨e, 0, none⟩)] 82))
    (by rw [World.cell?_alloc_at _ _ _ _ (by simp)]; rfl)
    (by rw [World.cell?_alloc_lt _ _ ⟨tb, 0, none⟩ (by simp; omega), World.cell?_alloc_lt _ _ ⟨tb, 0, none⟩ htlt]; exact ht0)
    (by rw [World.frozen?_alloc_old _ _ ⟨tb, 0, none⟩ (by simp; omega), World.frozen?_alloc_old _ _ ⟨tb, 0, none⟩ (Nat.ne_of_lt htlt)]; exact hf0)
  induction x' with
  | nil => intro v' c4 c5 c7 c8 c9 c10 c11 c12 c13 c14 c15 c16 c17 c18 c19 c20 c21 c22 c23 c24 c25 c26 c27 c28 c29 c30 c31 c32 c33 c34 c35 c36 c37 c38 c39 c40 c41 c42 c43 c44 c45 c46 c47 c48 c49 c50 c51 c52 c53 c54 c55 c56 c57 c58 c59 c60 c61 hx hfit hnil hfd hvv; simp [Err.isNil] at hnil
  | raw t z => intro v' c4 c5 c7 c8 c9 c10 c11 c12 c13 c14 c15 c16 c17 c18 c19 c20 c21 c22 c23 c24 c25 c26 c27 c28 c29 c30 c31 c32 c33 c34 c35 c36 c37 c38 c39 c40 c41 c42 c43 c44 c45 c46 c47 c48 c49 c50 c51 c52 c53 c54 c55 c56 c57 c58 c59 c60 c61 hx hfit hnil hfd hvv; simp [Err.fit] at hfit
  | leaf u xs =>
    intro v' c4 c5 c7 c8 c9 c10 c11 c12 c13 c14 c15 c16 c17 c18 c19 c20 c21 c22 c23 c24 c25 c26 c27 c28 c29 c30 c31 c32 c33 c34 c35 c36 c37 c38 c39 c40 c41 c42 c43 c44 c45 c46 c47 c48 c49 c50 c51 c52 c53 c54 c55 c56 c57 c58 c59 c60 c61 hx hfit hnil hfd hvv
    obtain ⟨b, hv, hb1, hb2, hb3, hb4⟩ := hx
    simp only [List.cons.injEq, and_true] at hv
    subst hv
    have hm := fit_leaf hfit
    simp only [List.mem_cons, List.not_mem_nil, or_false, Prod.mk.injEq] at hm
    · obtain ⟨rfl, hp1⟩ := hm
      refine LoopWp.step ?_
      go_wp2
      exact A1.out (.leaf _ xs) b (by rw [← hfd]; simp [Err.find]) (⟨b, rfl, hb1, hb2, hb3, hb4⟩) hfit (fun z hz => by have := hvv z hz; simpa using this.symm)

  | wrap u pre y post ih =>
    intro v' c4 c5 c7 c8 c9 c10 c11 c12 c13 c14 c15 c16 c17 c18 c19 c20 c21 c22 c23 c24 c25 c26 c27 c28 c29 c30 c31 c32 c33 c34 c35 c36 c37 c38 c39 c40 c41 c42 c43 c44 c45 c46 c47 c48 c49 c50 c51 c52 c53 c54 c55 c56 c57 c58 c59 c60 c61 hx hfit hnil hfd hvv
    have hx0 := hx
    obtain ⟨b, c, hv, hb1, hb2, hb3, hb4, hy⟩ := hx
    simp only [List.cons.injEq, and_true] at hv
    subst hv
    obtain ⟨hm, hfy⟩ := fit_wrap hfit
    simp only [List.mem_cons, List.not_mem_nil, or_false, Prod.mk.injEq] at hm
    · obtain ⟨rfl, hp1, hp2⟩ := hm
      have hc : (w.alloc (.cells #[.pointer (some ⟨1, 84, none⟩), .pointer (some ⟨vb, 0, none⟩), .int .u64 150] 99)).cell? ⟨b, 0, none⟩ = some c := by
        rw [World.cell?_alloc_lt _ _ ⟨b, 0, none⟩ (Nat.lt_of_lt_of_le hb2 hE.size)]
        have := hE.cell (hb4 pre.length c (by simp [intsV]))
        rw [hp1] at this
        simpa using this
      rcases rte_form hy with ⟨rfl, rfl⟩ | ⟨hny, t, z, rfl⟩
      · have e0 := eql_nil_nil Tryd.underlying55 (P := Tryd.prog)
        refine LoopWp.step ?_
        go_wp2
        exact A0.out (by rw [← hfd]; simp [Err.find])
      · have e0 := eql_iface_nil Tryd.underlying55 t z (P := Tryd.prog)
        refine LoopWp.step ?_
        go_wp2
        exact ih _ _ _ _ _ _ _ _ _ _ _ _ _ _ _ _ _ _ _ _ _ _ _ _ _ _ _ _ _ _ _ _ _ _ _ _ _ _ _ _ _ _ _ _ _ _ _ _ _ _ _ _ _ _ _ _ _ _ hy hfy hny (by rw [← hfd]; simp [Err.find]) (fun z hz => by have := hvv z hz; simp at this)

def AsHit82 (w : World) (ok : Nat → Prop) (x : Err) (v : Value) (tb : Nat) (e : Ending) (w' : World) : Prop :=
  ∃ y b, Err.find 82 x = some y ∧ e = .returned (.bool true) ∧ RtE w ok y [.iface 82 (.pointer (some ⟨b, 0, none⟩))] ∧ Err.fit [(82, 1)] [(93, 0, 0)] y = true ∧ (∀ z, v = .iface 82 z → z = .pointer (some ⟨b, 0, none⟩)) ∧ Ext (w.setCell ⟨tb, 0, none⟩ (.pointer (some ⟨b, 0, none⟩))) w'
set_option maxHeartbeats 8000000 in
set_option maxRecDepth 100000 in
theorem as_call82 {ok : Nat → Prop} {w : World} {tb : Nat} {oldv : Value} (hg : w.cell? ⟨0, 0, none⟩ = some (.iface 110 (.agg #[.pointer (some ⟨1, 55, none⟩)]))) (ht0 : w.cell? ⟨tb, 0, none⟩ = some oldv) (hf0 : w.frozen? ⟨tb, 0, none⟩ = false)
    (x : Err) (v : Value) (hx : RtE w ok x [v]) (hfit : Err.fit [(82, 1)] [(93, 0, 0)] x = true)
    (Φ : Ending → World → Prop) (H0 : ∀ w', Err.find 82 x = none → Ext w w' → Φ (.returned (.bool false)) w')
    (H1 : ∀ y b w', Err.find 82 x = some y → RtE w ok y [.iface 82 (.pointer (some ⟨b, 0, none⟩))] → Err.fit [(82, 1)] [(93, 0, 0)] y = true → (∀ z, v = .iface 82 z → z = .pointer (some ⟨b, 0, none⟩)) →
      Ext (w.setCell ⟨tb, 0, none⟩ (.pointer (some ⟨b, 0, none⟩))) w' → Φ (.returned (.bool true)) w') :
    Calls Tryd.prog 46 #[v, .iface 84 (.pointer (some ⟨tb, 0, none⟩))] w Φ := by
  obtain ⟨A0, A1⟩ : Hid (∀ w', Err.find 82 x = none → Ext w w' → Φ (.returned (.bool false)) w') ∧ Hid (∀ y b w', Err.find 82 x = some y → RtE w ok y [.iface 82 (.pointer (some ⟨b, 0, none⟩))] → Err.fit [(82, 1)] [(93, 0, 0)] y = true → (∀ z, v = .iface 82 z → z = .pointer (some ⟨b, 0, none⟩)) →
      Ext (w.setCell ⟨tb, 0, none⟩ (.pointer (some ⟨b, 0, none⟩))) w' → Φ (.returned (.bool true)) w') := ⟨⟨H0⟩, ⟨H1⟩⟩
  clear H0 H1
  have hVO := @run_callFunc_extern Tryd.prog 56 _ (fun args => ReflectliteValue.unpack (args.getD 0 (.tuple #[]))) Tryd.func56 (by kernel_rfl) (by kernel_rfl) (by kernel_rfl) (by kernel_rfl)
  have hVT := @run_callFunc_extern Tryd.prog 57 _ (ReflectliteValue.methodAny (ReflectliteValue.valueError "reflectlite.Value.Type" 0) (fun t _ _ _ => ReflectliteType.toType t)) Tryd.func57 (by kernel_rfl) (by kernel_rfl) (by kernel_rfl) (by kernel_rfl)
  have hVN := @run_callFunc_extern Tryd.prog 58 _ (ReflectliteValue.method (ReflectliteValue.valueError "reflectlite.Value.IsNil" 0) ReflectliteValue.isNil) Tryd.func58 (by kernel_rfl) (by kernel_rfl) (by kernel_rfl) (by kernel_rfl)
  have hKD := @run_callFunc_extern Tryd.prog 77 _ (ReflectliteType.abiMethod fun t => do pure (.int .u8 (← Rtype.kind t))) Tryd.func77 (by kernel_rfl) (by kernel_rfl) (by kernel_rfl) (by kernel_rfl)
  have hRE := @run_callFunc_extern Tryd.prog 89 _ (ReflectliteType.method ReflectliteType.elem) Tryd.func89 (by kernel_rfl) (by kernel_rfl) (by kernel_rfl) (by kernel_rfl)
  have hRI := @run_callFunc_extern Tryd.prog 90 _ (ReflectliteType.relation "Implements" ReflectliteType.implements_) Tryd.func90 (by kernel_rfl) (by kernel_rfl) (by kernel_rfl) (by kernel_rfl)
  have f1 := valueOf84
  have f2 := type84
  have mK := mKind
  have mE := mElem
  have mI := mImpl
  have k1 := kind84
  have k2 := kind82
  have e1 := elem84
  have i1 := implements82
  have htl : tb < w.heap.size := cell_lt ht0
  have hgl : 0 < w.heap.size := cell_lt hg
  have n1 := isNil84 ⟨w.heap.size, 0, none⟩ ⟨tb, 0, none⟩ ((w.alloc (.cells #[.pointer (some ⟨tb, 0, none⟩)] 84)).alloc (.cells #[.pointer (some ⟨1, 84, none⟩), .pointer (some ⟨w.heap.size, 0, none⟩), .int .u64 150] 99)) (by simp)
  have hg2 : ((w.alloc (.cells #[.pointer (some ⟨tb, 0, none⟩)] 84)).alloc (.cells #[.pointer (some ⟨1, 84, none⟩), .pointer (some ⟨w.heap.size, 0, none⟩), .int .u64 150] 99)).cell? ⟨0, 0, none⟩ = some (.iface 110 (.agg #[.pointer (some ⟨1, 55, none⟩)])) := by
    rw [World.cell?_alloc_lt _ _ ⟨0, 0, none⟩ (by simp), World.cell?_alloc_lt _ _ ⟨0, 0, none⟩ hgl]; exact hg
  have hE : Ext w ((w.alloc (.cells #[.pointer (some ⟨tb, 0, none⟩)] 84)).alloc (.cells #[.pointer (some ⟨1, 84, none⟩), .pointer (some ⟨w.heap.size, 0, none⟩), .int .u64 150] 99)) := ((Ext.refl w).alloc _).alloc _
  rcases rte_form hx with ⟨rfl, rfl⟩ | ⟨hn, t, z, rfl⟩
  · have e0 := eql_nil_nil Tryd.underlying55 (P := Tryd.prog)
    go_enter Tryd.func46, Tryd.ntmps46
    go_wp2
    exact A0.out _ rfl (Ext.refl w)
  · have e0 := eql_iface_nil Tryd.underlying55 t z (P := Tryd.prog)
    have hw := as_walk82 (ok := ok) (w0 := w) (w := (w.alloc (.cells #[.pointer (some ⟨tb, 0, none⟩)] 84)).alloc (.cells #[.pointer (some ⟨1, 84, none⟩), .pointer (some ⟨w.heap.size, 0, none⟩), .int .u64 150] 99)) (tb := tb) (vb := w.heap.size) (old := oldv) hE
      (by rw [World.cell?_alloc_lt _ _ ⟨tb, 0, none⟩ (by simp; omega), World.cell?_alloc_lt _ _ ⟨tb, 0, none⟩ htl]; exact ht0)
      (by rw [World.frozen?_alloc_old _ _ ⟨tb, 0, none⟩ (by simp; omega), World.frozen?_alloc_old _ _ ⟨tb, 0, none⟩ (Nat.ne_of_lt htl)]; exact hf0)
      (by rw [World.cell?_alloc_lt _ _ ⟨w.heap.size, 0, none⟩ (by simp), World.cell?_alloc_at _ _ _ _ (by simp)]; rfl) x _ hx hfit hn (fun e w' => (Err.find 82 x = none ∧ e = .returned (.bool false) ∧ Ext w w') ∨ AsHit82 w ok x (.iface t z) tb e w')
      (fun h => .inl ⟨h, rfl, hE.alloc _⟩) (fun y b h1 h2 h3 h4 => .inr ⟨y, b, h1, rfl, h2, h3, h4, ((hE.set htl _).alloc _).alloc _⟩)
    go_enter Tryd.func46, Tryd.ntmps46
    go_wp2_with (go_at_call 59; refine hw.mono ?_; rintro e w' (⟨h1, rfl, h2⟩ | ⟨y, b, h1, rfl, h2, h3, h4, h5⟩))
    · skip
      exact A0.out _ h1 h2
    · skip
      exact A1.out y b _ h1 h2 h3 h4 h5
def den82 (y : Err) : (Int × Unit) := ((Err.num 0 y), ())
theorem den_rt82 {x : Err} (hfit : Err.fit [(82, 1)] [(93, 0, 0)] x = true) (ok : Nat → Prop) (w : World) (y : Err) (b : Nat) (hy : Err.find 82 x = some y) (hyr : RtE w ok y [.iface 82 (.pointer (some ⟨b, 0, none⟩))]) :
    ok b ∧ b < w.heap.size ∧ ∃ ecs, Lies w b 0 ecs ∧ Rt w (fun _ _ => True) (.pair (.int .i64) .unit) ecs (den82 y) := by
    rcases find_type hy with ⟨xs, rfl⟩ | ⟨pre, z, post, rfl⟩
    rotate_left
    · have hm := (fit_wrap (find_fit hfit hy)).1
      simp at hm
    have hm := fit_leaf (find_fit hfit hy)
    have hp1 : xs.length = 1 := by simp at hm; first | exact hm | omega
    obtain ⟨b', hv, h1, h2, h3, h4⟩ := hyr
    simp only [List.cons.injEq, Value.iface.injEq, Value.pointer.injEq, Option.some.injEq, Addr.mk.injEq, and_true, true_and] at hv
    subst hv
    match xs, hp1, h3, h4 with
    | [n0], _, h3, h4 =>
      have hI0 : inK .i64 n0 = true := h3 n0 (by simp)
      exact ⟨h1, h2, _, h4, ⟨[_], [], rfl, ⟨rfl, hI0⟩, rfl⟩⟩
theorem glob0 : glob 0 = some (.err (.raw 110 (.agg #[.pointer (some ⟨1, 55, none⟩)]))) := rfl
theorem pok_46 {R : Type} : ShOk (R := R) Tryd.prog glob raw 46 sh46 := by
  intro av es K r h
  unfold sh46 at h
  split at h
  · rename_i x
    obtain ⟨hf, h⟩ := gd_some h
    have H := as_ok (raw := raw) (f := 46) (x := x) (ty := (.pair (.int .i64) .unit)) (k := 82) (tpp := 84) (enter_of Tryd.func46 rfl rfl) glob0
      (fun ok w tb oldv hg ht hf0 v hx => as_call82 hg ht hf0 x v hx hf _ (fun w' h1 h2 => .inl ⟨h1, rfl, h2⟩) (fun y b w' h1 h2 h3 h4 h5 => .inr ⟨y, b, h1, rfl, h2, h5⟩)) (den := den82) (den_rt82 hf) rfl
    unfold optK at h
    split at h
    · rename_i y hy; exact ⟨_, _, H.1 y hy, h⟩
    · rename_i hy; exact ⟨_, _, H.2 hy, h⟩
  · exact no_some h
end Go.Ab.T

/- scriptorylaw0.Spoil, by its own text. -/
namespace Go.Ab.T
open Go Go.Ab Go.Proofs Go.RowKit
set_option linter.unusedVariables false

theorem spoil_walk16 (w : World) (b o n cap : Nat) (hn : n ≤ cap) (hm : cap ≤ CAPM) (h : ∀ i, i < cap → (w.cell? ⟨b, o + i, none⟩).isSome ∧ w.frozen? ⟨b, o + i, none⟩ = false) :
    Calls Tryd.prog 16 #[.slice (some ⟨b, o, none⟩) n cap] w fun e w' => e = .returned (.tuple #[]) ∧ w' = spW w b o cap := by
  have hsp := sp_cell w b o cap h
  clear h
  have hm : cap ≤ 9223372036854775807 := hm
  have HH : Hid (∀ k i, i < cap → (∃ v, (spW w b o k).cell? ⟨b, o + i, none⟩ = some v) ∧ (spW w b o k).frozen? ⟨b, o + i, none⟩ = false) := ⟨hsp⟩
  clear hsp
  go_enter Tryd.func16, Tryd.ntmps16
  go_wp2
  go_loopw [3] (fun vi wr => ∃ k : Nat, vi = .int .i64 (k : Int) ∧ k ≤ cap ∧ wr = spW w b o k) (fun vi _ => cap - (RowKit.intOf vi).toNat)
  case atStart => exact ⟨0, rfl, Nat.zero_le _, rfl⟩
  case round =>
    obtain ⟨k, rfl, hk, hw⟩ := hrel
    by_cases hlt : k < cap
    · obtain ⟨⟨v0, h1⟩, h2⟩ := HH.out k k hlt
      rw [← hw] at h1 h2
      have HW : Hid (wr = spW w b o k) := ⟨hw⟩
      clear hw
      go_wp2
      go_roundw
      case measure => simp [RowKit.intOf]; omega
      case rel =>
        refine ⟨k + 1, by congr 1, by omega, ?_⟩
        rw [HW.out]; rfl
    · have hkc : k = cap := by omega
      subst hkc
      have HW : Hid (wr = spW w b o k) := ⟨hw⟩
      clear hw
      go_wp2
      go_end0
      exact ⟨rfl, HW.out⟩
theorem spoil_none16 (a : Option Addr) (w : World) : Calls Tryd.prog 16 #[.slice a 0 0] w fun e w' => e = .returned (.tuple #[]) ∧ w' = w := by
  go_enter Tryd.func16, Tryd.ntmps16
  cases a <;>
  (go_wp2
   go_loopw [3] (fun vi wr => vi = .int .i64 0 ∧ wr = w) (fun vi _ => 0)
   case atStart => exact ⟨rfl, rfl⟩
   case round =>
     obtain ⟨rfl, hw⟩ := hrel
     have HW : Hid (wr = w) := ⟨hw⟩
     clear hw
     go_wp2
     go_end0
     exact ⟨rfl, HW.out⟩)
theorem spw16 : SpWalk Tryd.prog 16 := ⟨fun a w => enter_of Tryd.func16 rfl rfl a w, spoil_none16, spoil_walk16⟩
theorem pok_16 {R : Type} : ShOk (R := R) Tryd.prog glob raw 16 sh16 := by
  intro av es K r h
  unfold sh16 at h
  split at h
  · exact ⟨_, _, by rw [show npF raw 16 _ = 1 from rfl]; exact spoil_own spw16 _, h⟩
  · exact ⟨_, _, by rw [show npF raw 16 _ = 1 from rfl]; exact spoil_twn spw16 _ _, h⟩
  · exact no_some h
end Go.Ab.T
