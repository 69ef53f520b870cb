/- errors.As, by its own text: what a call comes to. -/
import Derived.Test.YtpflljjomcbnmaaDoorCauTA
import Derived.Test.YtpflljjomcbnmaaDoorPrimX
import Derived.WalkKit
import Derived.LaidEql
import Derived.Stop.Asserts
import Derived.RowKitTokens
import Derived.Lib.Walk
namespace Go.Ab.T
open Go Go.Ab Go.Proofs Go.RowKit Go.Lib Go.Extern Go.Stop
set_option linter.unusedVariables false
set_option linter.unusedSimpArgs false

theorem rlm (z : Sem Value) (f : TypeId → Addr → Nat → Nat → Sem Value) (v : Value) :
    ReflectliteValue.method z f #[v] = (do match ← ReflectliteValue.parts v with | none => z | some (t, a, fl) => f t a fl (fl % 32)) := rfl
theorem rls (v x : Value) : ReflectliteValue.set #[v, x] = (do
    let (some (dst, a, fl), some (src, b, _)) := (← ReflectliteValue.parts v, ← ReflectliteValue.parts x)
      | unsupported (.noEntry "extern/(internal/reflectlite.Value).Set.zeroValue")
    if fl / ReflectliteValue.flagAddr % 2 == 0 then unsupported (.noEntry "extern/(internal/reflectlite.Value).Set.unaddressable")
    let val ← loadVar src b
    if ← Rtype.directlyAssignable dst src then storeVar dst a val
    else if ← Rtype.implements dst src then
      if (← Rtype.kind src) == 20 then
        match val with
        | .nilIface => unsupported (.noEntry "extern/reflectlite: a nil value of one interface type handed on as a value of another")
        | _ => storeVar dst a val
      else storeVar dst a (.iface src val)
    else panicString ("reflectlite.Set: value of type " ++ (← Rtype.spelt src) ++ " is not assignable to type " ++ (← Rtype.spelt dst))
    pure (.tuple #[])) := rfl

theorem typeOf43 (v : Value) (w : World) : (ReflectliteType.typeOf #[.iface 43 v]).run Tryd.prog w = .ok (.iface 73 (.agg #[.pointer (some ⟨1, 43, none⟩)])) w := by kernel_rfl
theorem noAs43 (v : Value) (xT : TypeId) (w : World) : (Instr.typeAssert (.iface 43 v) xT 77 true).run Tryd.prog w = .ok (.tuple #[.nilIface, .bool false]) w := run_typeAssert_lacksB Tryd.underlying77 (by kernel_rfl) (by kernel_rfl) v xT w
theorem hasUw43 (v : Value) (xT : TypeId) (w : World) : (Instr.typeAssert (.iface 43 v) xT 67 true).run Tryd.prog w = .ok (.tuple #[.iface 43 v, .bool true]) w := run_typeAssert_hasB Tryd.underlying67 (by kernel_rfl) v xT w
theorem mUw43 (b : Nat) (w : World) : (Go.method 217 43 (.pointer (some ⟨b, 0, none⟩)) "Unwrap").run Tryd.prog w = .ok (47, .pointer (some ⟨b, 0, none⟩)) w := by kernel_rfl
theorem assignable43_43 (w : World) : (ReflectliteType.relation "AssignableTo" ReflectliteType.assignableTo #[.agg #[.pointer (some ⟨1, 43, none⟩)], .iface 73 (.agg #[.pointer (some ⟨1, 43, none⟩)])]).run Tryd.prog w = .ok (.bool true) w := by kernel_rfl
theorem assignable43_52 (w : World) : (ReflectliteType.relation "AssignableTo" ReflectliteType.assignableTo #[.agg #[.pointer (some ⟨1, 43, none⟩)], .iface 73 (.agg #[.pointer (some ⟨1, 52, none⟩)])]).run Tryd.prog w = .ok (.bool false) w := by kernel_rfl
theorem typeOf52 (v : Value) (w : World) : (ReflectliteType.typeOf #[.iface 52 v]).run Tryd.prog w = .ok (.iface 73 (.agg #[.pointer (some ⟨1, 52, none⟩)])) w := by kernel_rfl
theorem noAs52 (v : Value) (xT : TypeId) (w : World) : (Instr.typeAssert (.iface 52 v) xT 77 true).run Tryd.prog w = .ok (.tuple #[.nilIface, .bool false]) w := run_typeAssert_lacksB Tryd.underlying77 (by kernel_rfl) (by kernel_rfl) v xT w
theorem hasUw52 (v : Value) (xT : TypeId) (w : World) : (Instr.typeAssert (.iface 52 v) xT 67 true).run Tryd.prog w = .ok (.tuple #[.iface 52 v, .bool true]) w := run_typeAssert_hasB Tryd.underlying67 (by kernel_rfl) v xT w
theorem mUw52 (b : Nat) (w : World) : (Go.method 217 52 (.pointer (some ⟨b, 0, none⟩)) "Unwrap").run Tryd.prog w = .ok (47, .pointer (some ⟨b, 0, none⟩)) w := by kernel_rfl
theorem assignable52_43 (w : World) : (ReflectliteType.relation "AssignableTo" ReflectliteType.assignableTo #[.agg #[.pointer (some ⟨1, 52, none⟩)], .iface 73 (.agg #[.pointer (some ⟨1, 43, none⟩)])]).run Tryd.prog w = .ok (.bool false) w := by kernel_rfl
theorem assignable52_52 (w : World) : (ReflectliteType.relation "AssignableTo" ReflectliteType.assignableTo #[.agg #[.pointer (some ⟨1, 52, none⟩)], .iface 73 (.agg #[.pointer (some ⟨1, 52, none⟩)])]).run Tryd.prog w = .ok (.bool true) w := by kernel_rfl
theorem mAsg (h : Value) (w : World) : (Go.method 217 73 (.agg #[h]) "AssignableTo").run Tryd.prog w = .ok (52, .agg #[h]) w := by kernel_rfl
theorem mKind (h : Value) (w : World) : (Go.method 217 73 (.agg #[h]) "Kind").run Tryd.prog w = .ok (42, h) w := by kernel_rfl
theorem mElem (h : Value) (w : World) : (Go.method 217 73 (.agg #[h]) "Elem").run Tryd.prog w = .ok (54, .agg #[h]) w := by kernel_rfl
theorem mImpl (h : Value) (w : World) : (Go.method 217 73 (.agg #[h]) "Implements").run Tryd.prog w = .ok (55, .agg #[h]) w := by kernel_rfl
theorem valueOf45 (t : Addr) (w : World) : (ReflectliteValue.unpack (.iface 45 (.pointer (some t)))).run Tryd.prog w = .ok (.agg #[.pointer (some ⟨1, 45, none⟩), .pointer (some ⟨w.heap.size, 0, none⟩), .int .u64 150]) (w.alloc (.cells #[.pointer (some t)] 45)) := by kernel_rfl
theorem type45 (a : Addr) (w : World) : (ReflectliteValue.methodAny (ReflectliteValue.valueError "reflectlite.Value.Type" 0) (fun t _ _ _ => ReflectliteType.toType t) #[.agg #[.pointer (some ⟨1, 45, none⟩), .pointer (some a), .int .u64 150]]).run Tryd.prog w = .ok (.iface 73 (.agg #[.pointer (some ⟨1, 45, none⟩)])) w := by kernel_rfl
theorem kind45 (w : World) : ((ReflectliteType.abiMethod fun t => (fun a : Nat => Value.int IntKind.u8 (a : Int)) <$> Rtype.kind t) #[.pointer (some ⟨1, 45, none⟩)]).run Tryd.prog w = .ok (.int .u8 22) w := by kernel_rfl
theorem kind43 (w : World) : ((ReflectliteType.abiMethod fun t => (fun a : Nat => Value.int IntKind.u8 (a : Int)) <$> Rtype.kind t) #[.pointer (some ⟨1, 43, none⟩)]).run Tryd.prog w = .ok (.int .u8 22) w := by kernel_rfl
theorem parts45 (a : Addr) (w : World) : (ReflectliteValue.parts (.agg #[.pointer (some ⟨1, 45, none⟩), .pointer (some a), .int .u64 150])).run Tryd.prog w = .ok (some (45, a, 150)) w := by kernel_rfl
theorem isNil45 (a p : Addr) (W : World) (ha : W.cell? a = some (.pointer (some p))) :
    (ReflectliteValue.method (ReflectliteValue.valueError "reflectlite.Value.IsNil" 0) ReflectliteValue.isNil #[.agg #[.pointer (some ⟨1, 45, none⟩), .pointer (some a), .int .u64 150]]).run Tryd.prog W = .ok (.bool false) W := by
  rw [rlm]
  simp only [Sem.run_bind, parts45, Result.andThen]
  simp [ReflectliteValue.isNil, loadVar, isAgg, underlying, Tryd.underlying45, ha, Result.andThen]
theorem elem45 (w : World) : (ReflectliteType.method ReflectliteType.elem #[.agg #[.pointer (some ⟨1, 45, none⟩)]]).run Tryd.prog w = .ok (.iface 73 (.agg #[.pointer (some ⟨1, 43, none⟩)])) w := by kernel_rfl
theorem implements43 (w : World) : (ReflectliteType.relation "Implements" ReflectliteType.implements_ #[.agg #[.pointer (some ⟨1, 43, none⟩)], .iface 73 (.agg #[.pointer (some ⟨1, 39, none⟩)])]).run Tryd.prog w = .ok (.bool true) w := by kernel_rfl
theorem valueOf43 (e : Addr) (w : World) : (ReflectliteValue.unpack (.iface 43 (.pointer (some e)))).run Tryd.prog w = .ok (.agg #[.pointer (some ⟨1, 43, none⟩), .pointer (some ⟨w.heap.size, 0, none⟩), .int .u64 150]) (w.alloc (.cells #[.pointer (some e)] 43)) := by kernel_rfl
theorem elemOf45 (w : World) : (Rtype.elem? 45).run Tryd.prog w = .ok (some 43) w := by kernel_rfl
theorem mk43 (p : Addr) (w : World) : (ReflectliteValue.mk 43 p ReflectliteValue.flagAddr).run Tryd.prog w = .ok (.agg #[.pointer (some ⟨1, 43, none⟩), .pointer (some p), .int .u64 406]) w := by kernel_rfl
theorem elemV45 (a p : Addr) (W : World) (ha : W.cell? a = some (.pointer (some p))) :
    (ReflectliteValue.method (ReflectliteValue.valueError "reflectlite.Value.Elem" 0) ReflectliteValue.elem #[.agg #[.pointer (some ⟨1, 45, none⟩), .pointer (some a), .int .u64 150]]).run Tryd.prog W
      = .ok (.agg #[.pointer (some ⟨1, 43, none⟩), .pointer (some p), .int .u64 406]) W := by
  rw [rlm]
  simp only [Sem.run_bind, parts45, Result.andThen]
  simp [ReflectliteValue.elem, loadVar, isAgg, underlying, Tryd.underlying45, ha, Result.andThen, elemOf45, mk43]
theorem parts43a (a : Addr) (w : World) : (ReflectliteValue.parts (.agg #[.pointer (some ⟨1, 43, none⟩), .pointer (some a), .int .u64 406])).run Tryd.prog w = .ok (some (43, a, 406)) w := by kernel_rfl
theorem parts43 (a : Addr) (w : World) : (ReflectliteValue.parts (.agg #[.pointer (some ⟨1, 43, none⟩), .pointer (some a), .int .u64 150])).run Tryd.prog w = .ok (some (43, a, 150)) w := by kernel_rfl
theorem direct43 (w : World) : (Rtype.directlyAssignable 43 43).run Tryd.prog w = .ok true w := by kernel_rfl
theorem size43 (w : World) : (sizeOf 43).run Tryd.prog w = .ok 1 w := by kernel_rfl
theorem set43 (ta b e : Addr) (old : Value) (W : World) (hb : W.cell? b = some (.pointer (some e))) (ht : W.cell? ta = some old) (hf : W.frozen? ta = false) :
    (ReflectliteValue.set #[.agg #[.pointer (some ⟨1, 43, none⟩), .pointer (some ta), .int .u64 406], .agg #[.pointer (some ⟨1, 43, none⟩), .pointer (some b), .int .u64 150]]).run Tryd.prog W
      = .ok (.tuple #[]) (W.setCell ta (.pointer (some e))) := by
  rw [rls]
  simp only [Sem.run_bind, parts43a, parts43, Result.andThen]
  simp [ReflectliteValue.flagAddr, loadVar, isAgg, underlying, Tryd.underlying43, hb, Result.andThen, direct43, storeVar, Value.cells, storeCells, Addr.add]
  rw [run_store Tryd.prog W ta _ _ (by rfl)]
  simp [ht, hf]
theorem valueOf53 (t : Addr) (w : World) : (ReflectliteValue.unpack (.iface 53 (.pointer (some t)))).run Tryd.prog w = .ok (.agg #[.pointer (some ⟨1, 53, none⟩), .pointer (some ⟨w.heap.size, 0, none⟩), .int .u64 150]) (w.alloc (.cells #[.pointer (some t)] 53)) := by kernel_rfl
theorem type53 (a : Addr) (w : World) : (ReflectliteValue.methodAny (ReflectliteValue.valueError "reflectlite.Value.Type" 0) (fun t _ _ _ => ReflectliteType.toType t) #[.agg #[.pointer (some ⟨1, 53, none⟩), .pointer (some a), .int .u64 150]]).run Tryd.prog w = .ok (.iface 73 (.agg #[.pointer (some ⟨1, 53, none⟩)])) w := by kernel_rfl
theorem kind53 (w : World) : ((ReflectliteType.abiMethod fun t => (fun a : Nat => Value.int IntKind.u8 (a : Int)) <$> Rtype.kind t) #[.pointer (some ⟨1, 53, none⟩)]).run Tryd.prog w = .ok (.int .u8 22) w := by kernel_rfl
theorem kind52 (w : World) : ((ReflectliteType.abiMethod fun t => (fun a : Nat => Value.int IntKind.u8 (a : Int)) <$> Rtype.kind t) #[.pointer (some ⟨1, 52, none⟩)]).run Tryd.prog w = .ok (.int .u8 22) w := by kernel_rfl
theorem parts53 (a : Addr) (w : World) : (ReflectliteValue.parts (.agg #[.pointer (some ⟨1, 53, none⟩), .pointer (some a), .int .u64 150])).run Tryd.prog w = .ok (some (53, a, 150)) w := by kernel_rfl
theorem isNil53 (a p : Addr) (W : World) (ha : W.cell? a = some (.pointer (some p))) :
    (ReflectliteValue.method (ReflectliteValue.valueError "reflectlite.Value.IsNil" 0) ReflectliteValue.isNil #[.agg #[.pointer (some ⟨1, 53, none⟩), .pointer (some a), .int .u64 150]]).run Tryd.prog W = .ok (.bool false) W := by
  rw [rlm]
  simp only [Sem.run_bind, parts53, Result.andThen]
  simp [ReflectliteValue.isNil, loadVar, isAgg, underlying, Tryd.underlying53, ha, Result.andThen]
theorem elem53 (w : World) : (ReflectliteType.method ReflectliteType.elem #[.agg #[.pointer (some ⟨1, 53, none⟩)]]).run Tryd.prog w = .ok (.iface 73 (.agg #[.pointer (some ⟨1, 52, none⟩)])) w := by kernel_rfl
theorem implements52 (w : World) : (ReflectliteType.relation "Implements" ReflectliteType.implements_ #[.agg #[.pointer (some ⟨1, 52, none⟩)], .iface 73 (.agg #[.pointer (some ⟨1, 39, none⟩)])]).run Tryd.prog w = .ok (.bool true) w := by kernel_rfl
theorem valueOf52 (e : Addr) (w : World) : (ReflectliteValue.unpack (.iface 52 (.pointer (some e)))).run Tryd.prog w = .ok (.agg #[.pointer (some ⟨1, 52, none⟩), .pointer (some ⟨w.heap.size, 0, none⟩), .int .u64 150]) (w.alloc (.cells #[.pointer (some e)] 52)) := by kernel_rfl
theorem elemOf53 (w : World) : (Rtype.elem? 53).run Tryd.prog w = .ok (some 52) w := by kernel_rfl
theorem mk52 (p : Addr) (w : World) : (ReflectliteValue.mk 52 p ReflectliteValue.flagAddr).run Tryd.prog w = .ok (.agg #[.pointer (some ⟨1, 52, none⟩), .pointer (some p), .int .u64 406]) w := by kernel_rfl
theorem elemV53 (a p : Addr) (W : World) (ha : W.cell? a = some (.pointer (some p))) :
    (ReflectliteValue.method (ReflectliteValue.valueError "reflectlite.Value.Elem" 0) ReflectliteValue.elem #[.agg #[.pointer (some ⟨1, 53, none⟩), .pointer (some a), .int .u64 150]]).run Tryd.prog W
      = .ok (.agg #[.pointer (some ⟨1, 52, none⟩), .pointer (some p), .int .u64 406]) W := by
  rw [rlm]
  simp only [Sem.run_bind, parts53, Result.andThen]
  simp [ReflectliteValue.elem, loadVar, isAgg, underlying, Tryd.underlying53, ha, Result.andThen, elemOf53, mk52]
theorem parts52a (a : Addr) (w : World) : (ReflectliteValue.parts (.agg #[.pointer (some ⟨1, 52, none⟩), .pointer (some a), .int .u64 406])).run Tryd.prog w = .ok (some (52, a, 406)) w := by kernel_rfl
theorem parts52 (a : Addr) (w : World) : (ReflectliteValue.parts (.agg #[.pointer (some ⟨1, 52, none⟩), .pointer (some a), .int .u64 150])).run Tryd.prog w = .ok (some (52, a, 150)) w := by kernel_rfl
theorem direct52 (w : World) : (Rtype.directlyAssignable 52 52).run Tryd.prog w = .ok true w := by kernel_rfl
theorem size52 (w : World) : (sizeOf 52).run Tryd.prog w = .ok 1 w := by kernel_rfl
theorem set52 (ta b e : Addr) (old : Value) (W : World) (hb : W.cell? b = some (.pointer (some e))) (ht : W.cell? ta = some old) (hf : W.frozen? ta = false) :
    (ReflectliteValue.set #[.agg #[.pointer (some ⟨1, 52, none⟩), .pointer (some ta), .int .u64 406], .agg #[.pointer (some ⟨1, 52, none⟩), .pointer (some b), .int .u64 150]]).run Tryd.prog W
      = .ok (.tuple #[]) (W.setCell ta (.pointer (some e))) := by
  rw [rls]
  simp only [Sem.run_bind, parts52a, parts52, Result.andThen]
  simp [ReflectliteValue.flagAddr, loadVar, isAgg, underlying, Tryd.underlying52, hb, Result.andThen, direct52, storeVar, Value.cells, storeCells, Addr.add]
  rw [run_store Tryd.prog W ta _ _ (by rfl)]
  simp [ht, hf]
set_option maxHeartbeats 8000000 in
set_option maxRecDepth 100000 in
/-- one target: the first error of type 43 in a chain -/
theorem as_walk43 {ok : Nat → Prop} {w0 w : World} {tb vb : Nat} {old : Value} (hE : Ext w0 w) (ht0 : w.cell? ⟨tb, 0, none⟩ = some old) (hf0 : w.frozen? ⟨tb, 0, none⟩ = false) (hv0 : w.cell? ⟨vb, 0, none⟩ = some (.pointer (some ⟨tb, 0, none⟩)))
    (x : Err) (v : Value) (hx : RtE w0 ok x [v]) (hfit : Err.fit [] [(43, 1, 1), (52, 1, 0)] x = true) (hnil : x.isNil = false)
    (Φ : Ending → World → Prop) (H0 : Err.find 43 x = none → Φ (.returned (.bool false)) (w.alloc (.cells #[.pointer (some ⟨1, 45, none⟩), .pointer (some ⟨vb, 0, none⟩), .int .u64 150] 58)))
    (H1 : ∀ y b, Err.find 43 x = some y → RtE w0 ok y [.iface 43 (.pointer (some ⟨b, 0, none⟩))] → Err.fit [] [(43, 1, 1), (52, 1, 0)] y = true → (∀ z, v = .iface 43 z → z = .pointer (some ⟨b, 0, none⟩)) →
      Φ (.returned (.bool true)) (((w.setCell ⟨tb, 0, none⟩ (.pointer (some ⟨b, 0, none⟩))).alloc (.cells #[.pointer (some ⟨1, 45, none⟩), .pointer (some ⟨vb, 0, none⟩), .int .u64 150] 58)).alloc (.cells #[.pointer (some ⟨b, 0, none⟩)] 43))) :
    Calls Tryd.prog 23 #[v, .iface 45 (.pointer (some ⟨tb, 0, none⟩)), .agg #[.pointer (some ⟨1, 45, none⟩), .pointer (some ⟨vb, 0, none⟩), .int .u64 150], .iface 73 (.agg #[.pointer (some ⟨1, 43, none⟩)])] w Φ := by
  obtain ⟨A0, A1⟩ : Hid (Err.find 43 x = none → Φ (.returned (.bool false)) (w.alloc (.cells #[.pointer (some ⟨1, 45, none⟩), .pointer (some ⟨vb, 0, none⟩), .int .u64 150] 58))) ∧ Hid (∀ y b, Err.find 43 x = some y → RtE w0 ok y [.iface 43 (.pointer (some ⟨b, 0, none⟩))] → Err.fit [] [(43, 1, 1), (52, 1, 0)] y = true → (∀ z, v = .iface 43 z → z = .pointer (some ⟨b, 0, none⟩)) →
      Φ (.returned (.bool true)) (((w.setCell ⟨tb, 0, none⟩ (.pointer (some ⟨b, 0, none⟩))).alloc (.cells #[.pointer (some ⟨1, 45, none⟩), .pointer (some ⟨vb, 0, none⟩), .int .u64 150] 58)).alloc (.cells #[.pointer (some ⟨b, 0, none⟩)] 43))) := ⟨⟨H0⟩, ⟨H1⟩⟩
  clear H0 H1
  have hTO := @run_callFunc_extern Tryd.prog 24 _ ReflectliteType.typeOf Tryd.func24 (by kernel_rfl) (by kernel_rfl) (by kernel_rfl) (by kernel_rfl)
  have hRA := @run_callFunc_extern Tryd.prog 52 _ (ReflectliteType.relation "AssignableTo" ReflectliteType.assignableTo) Tryd.func52 (by kernel_rfl) (by kernel_rfl) (by kernel_rfl) (by kernel_rfl)
  have hVO := @run_callFunc_extern Tryd.prog 20 _ (fun args => ReflectliteValue.unpack (args.getD 0 (.tuple #[]))) Tryd.func20 (by kernel_rfl) (by kernel_rfl) (by kernel_rfl) (by kernel_rfl)
  have hVE := @run_callFunc_extern Tryd.prog 26 _ (ReflectliteValue.method (ReflectliteValue.valueError "reflectlite.Value.Elem" 0) ReflectliteValue.elem) Tryd.func26 (by kernel_rfl) (by kernel_rfl) (by kernel_rfl) (by kernel_rfl)
  have hVS := @run_callFunc_extern Tryd.prog 27 _ ReflectliteValue.set Tryd.func27 (by kernel_rfl) (by kernel_rfl) (by kernel_rfl) (by kernel_rfl)
  have t43 := typeOf43
  have a43 := assignable43_43
  have n43 := noAs43
  have u43 := hasUw43
  have m43 := mUw43
  have t52 := typeOf52
  have a52 := assignable52_43
  have n52 := noAs52
  have u52 := hasUw52
  have m52 := mUw52
  have mA := mAsg
  go_enter Tryd.func23, Tryd.ntmps23
  go_wp2
  refine LoopWp.loop ?_
  refine (?_ : ∀ (x' : Err) (v' c4 c5 c7 c8 c9 c10 c11 c12 c13 c14 c15 c16 c17 c18 c19 c20 c21 c22 c23 c24 c25 c26 c27 c28 c29 c30 c31 c32 c33 c34 c35 c36 c37 c38 c39 c40 c41 c42 c43 c44 c45 c46 c47 c48 c49 c50 c51 c52 c53 c54 c55 c56 c57 c58 c59 c60 c61 : Value), RtE w0 ok x' [v'] → Err.fit [] [(43, 1, 1), (52, 1, 0)] x' = true → x'.isNil = false → Err.find 43 x' = Err.find 43 x → (∀ z, v = .iface 43 z → v' = .iface 43 z) → LoopWp _ _ _ ⟨#[v', .iface 45 (.pointer (some ⟨tb, 0, none⟩)), .agg #[.pointer (some ⟨1, 45, none⟩), .pointer (some ⟨vb, 0, none⟩), .int .u64 150], .iface 73 (.agg #[.pointer (some ⟨1, 43, none⟩)]), c4, c5, .pointer (some ⟨w.heap.size, 0, none⟩), c7, c8, c9, c10, c11, c12, c13, c14, c15, c16, c17, c18, c19, c20, c21, c22, c23, c24, c25, c26, c27, c28, c29, c30, c31, c32, c33, c34, c35, c36, c37, c38, c39, c40, c41, c42, c43, c44, c45, c46, c47, c48, c49, c50, c51, c52, c53, c54, c55, c56, c57, c58, c59, c60, c61], []⟩ (w.alloc (.cells #[.pointer (some ⟨1, 45, none⟩), .pointer (some ⟨vb, 0, none⟩), .int .u64 150] 58))) x v _ _ _ _ _ _ _ _ _ _ _ _ _ _ _ _ _ _ _ _ _ _ _ _ _ _ _ _ _ _ _ _ _ _ _ _ _ _ _ _ _ _ _ _ _ _ _ _ _ _ _ _ _ _ _ _ _ hx hfit hnil rfl (fun _ h => h)
  intro x'
  have hvlt : vb < w.heap.size := cell_lt hv0
  have htlt : tb < w.heap.size := cell_lt ht0
  have el := elemV45 ⟨vb, 0, none⟩ ⟨tb, 0, none⟩ (w.alloc (.cells #[.pointer (some ⟨1, 45, none⟩), .pointer (some ⟨vb, 0, none⟩), .int .u64 150] 58)) (by rw [World.cell?_alloc_lt _ _ ⟨vb, 0, none⟩ hvlt]; exact hv0)
  have vo := valueOf43
  have st := fun e : Nat => set43 ⟨tb, 0, none⟩ ⟨w.heap.size + 1, 0, none⟩ ⟨e, 0, none⟩ old ((w.alloc (.cells #[.pointer (some ⟨1, 45, none⟩), .pointer (some ⟨vb, 0, none⟩), .int .u64 150] 58)).alloc (.cells #[.pointer (some ⟨e, 0, none⟩)] 43))
    (by rw [World.cell?_alloc_at _ _ _ _ (by simp)]; rfl)
    (by rw [World.cell?_alloc_lt _ _ ⟨tb, 0, none⟩ (by simp; omega), World.cell?_alloc_lt _ _ ⟨tb, 0, none⟩ htlt]; exact ht0)
    (by rw [World.frozen?_alloc_old _ _ ⟨tb, 0, none⟩ (by simp; omega), World.frozen?_alloc_old _ _ ⟨tb, 0, none⟩ (Nat.ne_of_lt htlt)]; exact hf0)
  induction x' with
  | nil => intro v' c4 c5 c7 c8 c9 c10 c11 c12 c13 c14 c15 c16 c17 c18 c19 c20 c21 c22 c23 c24 c25 c26 c27 c28 c29 c30 c31 c32 c33 c34 c35 c36 c37 c38 c39 c40 c41 c42 c43 c44 c45 c46 c47 c48 c49 c50 c51 c52 c53 c54 c55 c56 c57 c58 c59 c60 c61 hx hfit hnil hfd hvv; simp [Err.isNil] at hnil
  | raw t z => intro v' c4 c5 c7 c8 c9 c10 c11 c12 c13 c14 c15 c16 c17 c18 c19 c20 c21 c22 c23 c24 c25 c26 c27 c28 c29 c30 c31 c32 c33 c34 c35 c36 c37 c38 c39 c40 c41 c42 c43 c44 c45 c46 c47 c48 c49 c50 c51 c52 c53 c54 c55 c56 c57 c58 c59 c60 c61 hx hfit hnil hfd hvv; simp [Err.fit] at hfit
  | leaf u xs =>
    intro v' c4 c5 c7 c8 c9 c10 c11 c12 c13 c14 c15 c16 c17 c18 c19 c20 c21 c22 c23 c24 c25 c26 c27 c28 c29 c30 c31 c32 c33 c34 c35 c36 c37 c38 c39 c40 c41 c42 c43 c44 c45 c46 c47 c48 c49 c50 c51 c52 c53 c54 c55 c56 c57 c58 c59 c60 c61 hx hfit hnil hfd hvv
    obtain ⟨b, hv, hb1, hb2, hb3, hb4⟩ := hx
    simp only [List.cons.injEq, and_true] at hv
    subst hv
    exact absurd (fit_leaf hfit) List.not_mem_nil

  | wrap u pre y post ih =>
    intro v' c4 c5 c7 c8 c9 c10 c11 c12 c13 c14 c15 c16 c17 c18 c19 c20 c21 c22 c23 c24 c25 c26 c27 c28 c29 c30 c31 c32 c33 c34 c35 c36 c37 c38 c39 c40 c41 c42 c43 c44 c45 c46 c47 c48 c49 c50 c51 c52 c53 c54 c55 c56 c57 c58 c59 c60 c61 hx hfit hnil hfd hvv
    have hx0 := hx
    obtain ⟨b, c, hv, hb1, hb2, hb3, hb4, hy⟩ := hx
    simp only [List.cons.injEq, and_true] at hv
    subst hv
    obtain ⟨hm, hfy⟩ := fit_wrap hfit
    simp only [List.mem_cons, List.not_mem_nil, or_false, Prod.mk.injEq] at hm
    rcases hm with hm | hm
    · obtain ⟨rfl, hp1, hp2⟩ := hm
      refine LoopWp.step ?_
      go_wp2
      exact A1.out (.wrap _ pre y post) b (by rw [← hfd]; simp [Err.find]) (hx0) hfit (fun z hz => by have := hvv z hz; simpa using this.symm)
    · obtain ⟨rfl, hp1, hp2⟩ := hm
      have hc : (w.alloc (.cells #[.pointer (some ⟨1, 45, none⟩), .pointer (some ⟨vb, 0, none⟩), .int .u64 150] 58)).cell? ⟨b, 1, none⟩ = some c := by
        rw [World.cell?_alloc_lt _ _ ⟨b, 1, none⟩ (Nat.lt_of_lt_of_le hb2 hE.size)]
        have := hE.cell (hb4 pre.length c (by simp [intsV]))
        rw [hp1] at this
        simpa using this
      rcases rte_form hy with ⟨rfl, rfl⟩ | ⟨hny, t, z, rfl⟩
      · have e0 := eql_nil_nil Tryd.underlying39 (P := Tryd.prog)
        refine LoopWp.step ?_
        go_wp2
        exact A0.out (by rw [← hfd]; simp [Err.find])
      · have e0 := eql_iface_nil Tryd.underlying39 t z (P := Tryd.prog)
        refine LoopWp.step ?_
        go_wp2
        exact ih _ _ _ _ _ _ _ _ _ _ _ _ _ _ _ _ _ _ _ _ _ _ _ _ _ _ _ _ _ _ _ _ _ _ _ _ _ _ _ _ _ _ _ _ _ _ _ _ _ _ _ _ _ _ _ _ _ _ hy hfy hny (by rw [← hfd]; simp [Err.find]) (fun z hz => by have := hvv z hz; simp at this)

def AsHit43 (w : World) (ok : Nat → Prop) (x : Err) (v : Value) (tb : Nat) (e : Ending) (w' : World) : Prop :=
  ∃ y b, Err.find 43 x = some y ∧ e = .returned (.bool true) ∧ RtE w ok y [.iface 43 (.pointer (some ⟨b, 0, none⟩))] ∧ Err.fit [] [(43, 1, 1), (52, 1, 0)] y = true ∧ (∀ z, v = .iface 43 z → z = .pointer (some ⟨b, 0, none⟩)) ∧ Ext (w.setCell ⟨tb, 0, none⟩ (.pointer (some ⟨b, 0, none⟩))) w'
set_option maxHeartbeats 8000000 in
set_option maxRecDepth 100000 in
theorem as_call43 {ok : Nat → Prop} {w : World} {tb : Nat} {oldv : Value} (hg : w.cell? ⟨0, 0, none⟩ = some (.iface 73 (.agg #[.pointer (some ⟨1, 39, none⟩)]))) (ht0 : w.cell? ⟨tb, 0, none⟩ = some oldv) (hf0 : w.frozen? ⟨tb, 0, none⟩ = false)
    (x : Err) (v : Value) (hx : RtE w ok x [v]) (hfit : Err.fit [] [(43, 1, 1), (52, 1, 0)] x = true)
    (Φ : Ending → World → Prop) (H0 : ∀ w', Err.find 43 x = none → Ext w w' → Φ (.returned (.bool false)) w')
    (H1 : ∀ y b w', Err.find 43 x = some y → RtE w ok y [.iface 43 (.pointer (some ⟨b, 0, none⟩))] → Err.fit [] [(43, 1, 1), (52, 1, 0)] y = true → (∀ z, v = .iface 43 z → z = .pointer (some ⟨b, 0, none⟩)) →
      Ext (w.setCell ⟨tb, 0, none⟩ (.pointer (some ⟨b, 0, none⟩))) w' → Φ (.returned (.bool true)) w') :
    Calls Tryd.prog 16 #[v, .iface 45 (.pointer (some ⟨tb, 0, none⟩))] w Φ := by
  obtain ⟨A0, A1⟩ : Hid (∀ w', Err.find 43 x = none → Ext w w' → Φ (.returned (.bool false)) w') ∧ Hid (∀ y b w', Err.find 43 x = some y → RtE w ok y [.iface 43 (.pointer (some ⟨b, 0, none⟩))] → Err.fit [] [(43, 1, 1), (52, 1, 0)] y = true → (∀ z, v = .iface 43 z → z = .pointer (some ⟨b, 0, none⟩)) →
      Ext (w.setCell ⟨tb, 0, none⟩ (.pointer (some ⟨b, 0, none⟩))) w' → Φ (.returned (.bool true)) w') := ⟨⟨H0⟩, ⟨H1⟩⟩
  clear H0 H1
  have hVO := @run_callFunc_extern Tryd.prog 20 _ (fun args => ReflectliteValue.unpack (args.getD 0 (.tuple #[]))) Tryd.func20 (by kernel_rfl) (by kernel_rfl) (by kernel_rfl) (by kernel_rfl)
  have hVT := @run_callFunc_extern Tryd.prog 21 _ (ReflectliteValue.methodAny (ReflectliteValue.valueError "reflectlite.Value.Type" 0) (fun t _ _ _ => ReflectliteType.toType t)) Tryd.func21 (by kernel_rfl) (by kernel_rfl) (by kernel_rfl) (by kernel_rfl)
  have hVN := @run_callFunc_extern Tryd.prog 22 _ (ReflectliteValue.method (ReflectliteValue.valueError "reflectlite.Value.IsNil" 0) ReflectliteValue.isNil) Tryd.func22 (by kernel_rfl) (by kernel_rfl) (by kernel_rfl) (by kernel_rfl)
  have hKD := @run_callFunc_extern Tryd.prog 42 _ (ReflectliteType.abiMethod fun t => do pure (.int .u8 (← Rtype.kind t))) Tryd.func42 (by kernel_rfl) (by kernel_rfl) (by kernel_rfl) (by kernel_rfl)
  have hRE := @run_callFunc_extern Tryd.prog 54 _ (ReflectliteType.method ReflectliteType.elem) Tryd.func54 (by kernel_rfl) (by kernel_rfl) (by kernel_rfl) (by kernel_rfl)
  have hRI := @run_callFunc_extern Tryd.prog 55 _ (ReflectliteType.relation "Implements" ReflectliteType.implements_) Tryd.func55 (by kernel_rfl) (by kernel_rfl) (by kernel_rfl) (by kernel_rfl)
  have f1 := valueOf45
  have f2 := type45
  have mK := mKind
  have mE := mElem
  have mI := mImpl
  have k1 := kind45
  have k2 := kind43
  have e1 := elem45
  have i1 := implements43
  have htl : tb < w.heap.size := cell_lt ht0
  have hgl : 0 < w.heap.size := cell_lt hg
  have n1 := isNil45 ⟨w.heap.size, 0, none⟩ ⟨tb, 0, none⟩ ((w.alloc (.cells #[.pointer (some ⟨tb, 0, none⟩)] 45)).alloc (.cells #[.pointer (some ⟨1, 45, none⟩), .pointer (some ⟨w.heap.size, 0, none⟩), .int .u64 150] 58)) (by simp)
  have hg2 : ((w.alloc (.cells #[.pointer (some ⟨tb, 0, none⟩)] 45)).alloc (.cells #[.pointer (some ⟨1, 45, none⟩), .pointer (some ⟨w.heap.size, 0, none⟩), .int .u64 150] 58)).cell? ⟨0, 0, none⟩ = some (.iface 73 (.agg #[.pointer (some ⟨1, 39, none⟩)])) := by
    rw [World.cell?_alloc_lt _ _ ⟨0, 0, none⟩ (by simp), World.cell?_alloc_lt _ _ ⟨0, 0, none⟩ hgl]; exact hg
  have hE : Ext w ((w.alloc (.cells #[.pointer (some ⟨tb, 0, none⟩)] 45)).alloc (.cells #[.pointer (some ⟨1, 45, none⟩), .pointer (some ⟨w.heap.size, 0, none⟩), .int .u64 150] 58)) := ((Ext.refl w).alloc _).alloc _
  rcases rte_form hx with ⟨rfl, rfl⟩ | ⟨hn, t, z, rfl⟩
  · have e0 := eql_nil_nil Tryd.underlying39 (P := Tryd.prog)
    go_enter Tryd.func16, Tryd.ntmps16
    go_wp2
    exact A0.out _ rfl (Ext.refl w)
  · have e0 := eql_iface_nil Tryd.underlying39 t z (P := Tryd.prog)
    have hw := as_walk43 (ok := ok) (w0 := w) (w := (w.alloc (.cells #[.pointer (some ⟨tb, 0, none⟩)] 45)).alloc (.cells #[.pointer (some ⟨1, 45, none⟩), .pointer (some ⟨w.heap.size, 0, none⟩), .int .u64 150] 58)) (tb := tb) (vb := w.heap.size) (old := oldv) hE
      (by rw [World.cell?_alloc_lt _ _ ⟨tb, 0, none⟩ (by simp; omega), World.cell?_alloc_lt _ _ ⟨tb, 0, none⟩ htl]; exact ht0)
      (by rw [World.frozen?_alloc_old _ _ ⟨tb, 0, none⟩ (by simp; omega), World.frozen?_alloc_old _ _ ⟨tb, 0, none⟩ (Nat.ne_of_lt htl)]; exact hf0)
      (by rw [World.cell?_alloc_lt _ _ ⟨w.heap.size, 0, none⟩ (by simp), World.cell?_alloc_at _ _ _ _ (by simp)]; rfl) x _ hx hfit hn (fun e w' => (Err.find 43 x = none ∧ e = .returned (.bool false) ∧ Ext w w') ∨ AsHit43 w ok x (.iface t z) tb e w')
      (fun h => .inl ⟨h, rfl, hE.alloc _⟩) (fun y b h1 h2 h3 h4 => .inr ⟨y, b, h1, rfl, h2, h3, h4, ((hE.set htl _).alloc _).alloc _⟩)
    go_enter Tryd.func16, Tryd.ntmps16
    go_wp2_with (go_at_call 23; refine hw.mono ?_; rintro e w' (⟨h1, rfl, h2⟩ | ⟨y, b, h1, rfl, h2, h3, h4, h5⟩))
    · skip
      exact A0.out _ h1 h2
    · skip
      exact A1.out y b _ h1 h2 h3 h4 h5
def den43 (y : Err) : ((Int × (Err × Unit)) × (Int × Unit)) := (((Err.num 0 y), (Err.inner y), ()), (Err.num 1 y), ())
theorem den_rt43 {x : Err} (hfit : Err.fit [] [(43, 1, 1), (52, 1, 0)] x = true) (ok : Nat → Prop) (w : World) (y : Err) (b : Nat) (hy : Err.find 43 x = some y) (hyr : RtE w ok y [.iface 43 (.pointer (some ⟨b, 0, none⟩))]) :
    ok b ∧ b < w.heap.size ∧ ∃ ecs, Lies w b 0 ecs ∧ Rt w ok (.pair (.pair (.int .i64) (.pair .err .unit)) (.pair (.int .i64) .unit)) ecs (den43 y) := by
    rcases find_type hy with ⟨xs, rfl⟩ | ⟨pre, z, post, rfl⟩
    · have hm := fit_leaf (find_fit hfit hy)
      exact absurd hm (by simp)
    obtain ⟨hm, _⟩ := fit_wrap (find_fit hfit hy)
    simp only [List.mem_cons, List.not_mem_nil, or_false, Prod.mk.injEq] at hm
    have hp1 : pre.length = 1 := by omega
    have hp2 : post.length = 1 := by omega
    obtain ⟨b', c, hv, h1, h2, h3, h4, hz⟩ := hyr
    simp only [List.cons.injEq, Value.iface.injEq, Value.pointer.injEq, Option.some.injEq, Addr.mk.injEq, and_true, true_and] at hv
    subst hv
    match pre, post, hp1, hp2, h3, h4 with
    | [n0], [n1], _, _, h3, h4 =>
      have hI0 : inK .i64 n0 = true := h3 n0 (by simp)
      have hI1 : inK .i64 n1 = true := h3 n1 (by simp)
      exact ⟨h1, h2, _, h4, ⟨[_, _], [_], rfl, ⟨[_], [_], rfl, ⟨rfl, hI0⟩, ⟨[_], [], rfl, hz, rfl⟩⟩, ⟨[_], [], rfl, ⟨rfl, hI1⟩, rfl⟩⟩⟩
set_option maxHeartbeats 8000000 in
set_option maxRecDepth 100000 in
/-- one target: the first error of type 52 in a chain -/
theorem as_walk52 {ok : Nat → Prop} {w0 w : World} {tb vb : Nat} {old : Value} (hE : Ext w0 w) (ht0 : w.cell? ⟨tb, 0, none⟩ = some old) (hf0 : w.frozen? ⟨tb, 0, none⟩ = false) (hv0 : w.cell? ⟨vb, 0, none⟩ = some (.pointer (some ⟨tb, 0, none⟩)))
    (x : Err) (v : Value) (hx : RtE w0 ok x [v]) (hfit : Err.fit [] [(43, 1, 1), (52, 1, 0)] x = true) (hnil : x.isNil = false)
    (Φ : Ending → World → Prop) (H0 : Err.find 52 x = none → Φ (.returned (.bool false)) (w.alloc (.cells #[.pointer (some ⟨1, 53, none⟩), .pointer (some ⟨vb, 0, none⟩), .int .u64 150] 58)))
    (H1 : ∀ y b, Err.find 52 x = some y → RtE w0 ok y [.iface 52 (.pointer (some ⟨b, 0, none⟩))] → Err.fit [] [(43, 1, 1), (52, 1, 0)] y = true → (∀ z, v = .iface 52 z → z = .pointer (some ⟨b, 0, none⟩)) →
      Φ (.returned (.bool true)) (((w.setCell ⟨tb, 0, none⟩ (.pointer (some ⟨b, 0, none⟩))).alloc (.cells #[.pointer (some ⟨1, 53, none⟩), .pointer (some ⟨vb, 0, none⟩), .int .u64 150] 58)).alloc (.cells #[.pointer (some ⟨b, 0, none⟩)] 52))) :
    Calls Tryd.prog 23 #[v, .iface 53 (.pointer (some ⟨tb, 0, none⟩)), .agg #[.pointer (some ⟨1, 53, none⟩), .pointer (some ⟨vb, 0, none⟩), .int .u64 150], .iface 73 (.agg #[.pointer (some ⟨1, 52, none⟩)])] w Φ := by
  obtain ⟨A0, A1⟩ : Hid (Err.find 52 x = none → Φ (.returned (.bool false)) (w.alloc (.cells #[.pointer (some ⟨1, 53, none⟩), .pointer (some ⟨vb, 0, none⟩), .int .u64 150] 58))) ∧ Hid (∀ y b, Err.find 52 x = some y → RtE w0 ok y [.iface 52 (.pointer (some ⟨b, 0, none⟩))] → Err.fit [] [(43, 1, 1), (52, 1, 0)] y = true → (∀ z, v = .iface 52 z → z = .pointer (some ⟨b, 0, none⟩)) →
      Φ (.returned (.bool true)) (((w.setCell ⟨tb, 0, none⟩ (.pointer (some ⟨b, 0, none⟩))).alloc (.cells #[.pointer (some ⟨1, 53, none⟩), .pointer (some ⟨vb, 0, none⟩), .int .u64 150] 58)).alloc (.cells #[.pointer (some ⟨b, 0, none⟩)] 52))) := ⟨⟨H0⟩, ⟨H1⟩⟩
  clear H0 H1
  have hTO := @run_callFunc_extern Tryd.prog 24 _ ReflectliteType.typeOf Tryd.func24 (by kernel_rfl) (by kernel_rfl) (by kernel_rfl) (by kernel_rfl)
  have hRA := @run_callFunc_extern Tryd.prog 52 _ (ReflectliteType.relation "AssignableTo" ReflectliteType.assignableTo) Tryd.func52 (by kernel_rfl) (by kernel_rfl) (by kernel_rfl) (by kernel_rfl)
  have hVO := @run_callFunc_extern Tryd.prog 20 _ (fun args => ReflectliteValue.unpack (args.getD 0 (.tuple #[]))) Tryd.func20 (by kernel_rfl) (by kernel_rfl) (by kernel_rfl) (by kernel_rfl)
  have hVE := @run_callFunc_extern Tryd.prog 26 _ (ReflectliteValue.method (ReflectliteValue.valueError "reflectlite.Value.Elem" 0) ReflectliteValue.elem) Tryd.func26 (by kernel_rfl) (by kernel_rfl) (by kernel_rfl) (by kernel_rfl)
  have hVS := @run_callFunc_extern Tryd.prog 27 _ ReflectliteValue.set Tryd.func27 (by kernel_rfl) (by kernel_rfl) (by kernel_rfl) (by kernel_rfl)
  have t43 := typeOf43
  have a43 := assignable43_52
  have n43 := noAs43
  have u43 := hasUw43
  have m43 := mUw43
  have t52 := typeOf52
  have a52 := assignable52_52
  have n52 := noAs52
  have u52 := hasUw52
  have m52 := mUw52
  have mA := mAsg
  go_enter Tryd.func23, Tryd.ntmps23
  go_wp2
  refine LoopWp.loop ?_
  refine (?_ : ∀ (x' : Err) (v' c4 c5 c7 c8 c9 c10 c11 c12 c13 c14 c15 c16 c17 c18 c19 c20 c21 c22 c23 c24 c25 c26 c27 c28 c29 c30 c31 c32 c33 c34 c35 c36 c37 c38 c39 c40 c41 c42 c43 c44 c45 c46 c47 c48 c49 c50 c51 c52 c53 c54 c55 c56 c57 c58 c59 c60 c61 : Value), RtE w0 ok x' [v'] → Err.fit [] [(43, 1, 1), (52, 1, 0)] x' = true → x'.isNil = false → Err.find 52 x' = Err.find 52 x → (∀ z, v = .iface 52 z → v' = .iface 52 z) → LoopWp _ _ _ ⟨#[v', .iface 53 (.pointer (some ⟨tb, 0, none⟩)), .agg #[.pointer (some ⟨1, 53, none⟩), .pointer (some ⟨vb, 0, none⟩), .int .u64 150], .iface 73 (.agg #[.pointer (some ⟨1, 52, none⟩)]), c4, c5, .pointer (some ⟨w.heap.size, 0, none⟩), c7, c8, c9, c10, c11, c12, c13, c14, c15, c16, c17, c18, c19, c20, c21, c22, c23, c24, c25, c26, c27, c28, c29, c30, c31, c32, c33, c34, c35, c36, c37, c38, c39, c40, c41, c42, c43, c44, c45, c46, c47, c48, c49, c50, c51, c52, c53, c54, c55, c56, c57, c58, c59, c60, c61], []⟩ (w.alloc (.cells #[.pointer (some ⟨1, 53, none⟩), .pointer (some ⟨vb, 0, none⟩), .int .u64 150] 58))) x v _ _ _ _ _ _ _ _ _ _ _ _ _ _ _ _ _ _ _ _ _ _ _ _ _ _ _ _ _ _ _ _ _ _ _ _ _ _ _ _ _ _ _ _ _ _ _ _ _ _ _ _ _ _ _ _ _ hx hfit hnil rfl (fun _ h => h)
  intro x'
  have hvlt : vb < w.heap.size := cell_lt hv0
  have htlt : tb < w.heap.size := cell_lt ht0
  have el := elemV53 ⟨vb, 0, none⟩ ⟨tb, 0, none⟩ (w.alloc (.cells #[.pointer (some ⟨1, 53, none⟩), .pointer (some ⟨vb, 0, none⟩), .int .u64 150] 58)) (by rw [World.cell?_alloc_lt _ _ ⟨vb, 0, none⟩ hvlt]; exact hv0)
  have vo := valueOf52
  have st := fun e : Nat => set52 ⟨tb, 0, none⟩ ⟨w.heap.size + 1, 0, none⟩ ⟨e, 0, none⟩ old ((w.alloc (.cells #[.pointer (some ⟨1, 53, none⟩), .pointer (some ⟨vb, 0, none⟩), .int .u64 150] 58)).alloc (.cells #[.pointer (some ⟨e, 0, none⟩)] 52))
    (by rw [World.cell?_alloc_at _ _ _ _ (by simp)]; rfl)
    (by rw [World.cell?_alloc_lt _ _ ⟨tb, 0, none⟩ (by simp; omega), World.cell?_alloc_lt _ _ ⟨tb, 0, none⟩ htlt]; exact ht0)
    (by rw [World.frozen?_alloc_old _ _ ⟨tb, 0, none⟩ (by simp; omega), World.frozen?_alloc_old _ _ ⟨tb, 0, none⟩ (Nat.ne_of_lt htlt)]; exact hf0)
  induction x' with
  | nil => intro v' c4 c5 c7 c8 c9 c10 c11 c12 c13 c14 c15 c16 c17 c18 c19 c20 c21 c22 c23 c24 c25 c26 c27 c28 c29 c30 c31 c32 c33 c34 c35 c36 c37 c38 c39 c40 c41 c42 c43 c44 c45 c46 c47 c48 c49 c50 c51 c52 c53 c54 c55 c56 c57 c58 c59 c60 c61 hx hfit hnil hfd hvv; simp [Err.isNil] at hnil
  | raw t z => intro v' c4 c5 c7 c8 c9 c10 c11 c12 c13 c14 c15 c16 c17 c18 c19 c20 c21 c22 c23 c24 c25 c26 c27 c28 c29 c30 c31 c32 c33 c34 c35 c36 c37 c38 c39 c40 c41 c42 c43 c44 c45 c46 c47 c48 c49 c50 c51 c52 c53 c54 c55 c56 c57 c58 c59 c60 c61 hx hfit hnil hfd hvv; simp [Err.fit] at hfit
  | leaf u xs =>
    intro v' c4 c5 c7 c8 c9 c10 c11 c12 c13 c14 c15 c16 c17 c18 c19 c20 c21 c22 c23 c24 c25 c26 c27 c28 c29 c30 c31 c32 c33 c34 c35 c36 c37 c38 c39 c40 c41 c42 c43 c44 c45 c46 c47 c48 c49 c50 c51 c52 c53 c54 c55 c56 c57 c58 c59 c60 c61 hx hfit hnil hfd hvv
    obtain ⟨b, hv, hb1, hb2, hb3, hb4⟩ := hx
    simp only [List.cons.injEq, and_true] at hv
    subst hv
    exact absurd (fit_leaf hfit) List.not_mem_nil

  | wrap u pre y post ih =>
    intro v' c4 c5 c7 c8 c9 c10 c11 c12 c13 c14 c15 c16 c17 c18 c19 c20 c21 c22 c23 c24 c25 c26 c27 c28 c29 c30 c31 c32 c33 c34 c35 c36 c37 c38 c39 c40 c41 c42 c43 c44 c45 c46 c47 c48 c49 c50 c51 c52 c53 c54 c55 c56 c57 c58 c59 c60 c61 hx hfit hnil hfd hvv
    have hx0 := hx
    obtain ⟨b, c, hv, hb1, hb2, hb3, hb4, hy⟩ := hx
    simp only [List.cons.injEq, and_true] at hv
    subst hv
    obtain ⟨hm, hfy⟩ := fit_wrap hfit
    simp only [List.mem_cons, List.not_mem_nil, or_false, Prod.mk.injEq] at hm
    rcases hm with hm | hm
    · obtain ⟨rfl, hp1, hp2⟩ := hm
      have hc : (w.alloc (.cells #[.pointer (some ⟨1, 53, none⟩), .pointer (some ⟨vb, 0, none⟩), .int .u64 150] 58)).cell? ⟨b, 1, none⟩ = some c := by
        rw [World.cell?_alloc_lt _ _ ⟨b, 1, none⟩ (Nat.lt_of_lt_of_le hb2 hE.size)]
        have := hE.cell (hb4 pre.length c (by simp [intsV]))
        rw [hp1] at this
        simpa using this
      rcases rte_form hy with ⟨rfl, rfl⟩ | ⟨hny, t, z, rfl⟩
      · have e0 := eql_nil_nil Tryd.underlying39 (P := Tryd.prog)
        refine LoopWp.step ?_
        go_wp2
        exact A0.out (by rw [← hfd]; simp [Err.find])
      · have e0 := eql_iface_nil Tryd.underlying39 t z (P := Tryd.prog)
        refine LoopWp.step ?_
        go_wp2
        exact ih _ _ _ _ _ _ _ _ _ _ _ _ _ _ _ _ _ _ _ _ _ _ _ _ _ _ _ _ _ _ _ _ _ _ _ _ _ _ _ _ _ _ _ _ _ _ _ _ _ _ _ _ _ _ _ _ _ _ hy hfy hny (by rw [← hfd]; simp [Err.find]) (fun z hz => by have := hvv z hz; simp at this)
    · obtain ⟨rfl, hp1, hp2⟩ := hm
      refine LoopWp.step ?_
      go_wp2
      exact A1.out (.wrap _ pre y post) b (by rw [← hfd]; simp [Err.find]) (hx0) hfit (fun z hz => by have := hvv z hz; simpa using this.symm)

def AsHit52 (w : World) (ok : Nat → Prop) (x : Err) (v : Value) (tb : Nat) (e : Ending) (w' : World) : Prop :=
  ∃ y b, Err.find 52 x = some y ∧ e = .returned (.bool true) ∧ RtE w ok y [.iface 52 (.pointer (some ⟨b, 0, none⟩))] ∧ Err.fit [] [(43, 1, 1), (52, 1, 0)] y = true ∧ (∀ z, v = .iface 52 z → z = .pointer (some ⟨b, 0, none⟩)) ∧ Ext (w.setCell ⟨tb, 0, none⟩ (.pointer (some ⟨b, 0, none⟩))) w'
set_option maxHeartbeats 8000000 in
set_option maxRecDepth 100000 in
theorem as_call52 {ok : Nat → Prop} {w : World} {tb : Nat} {oldv : Value} (hg : w.cell? ⟨0, 0, none⟩ = some (.iface 73 (.agg #[.pointer (some ⟨1, 39, none⟩)]))) (ht0 : w.cell? ⟨tb, 0, none⟩ = some oldv) (hf0 : w.frozen? ⟨tb, 0, none⟩ = false)
    (x : Err) (v : Value) (hx : RtE w ok x [v]) (hfit : Err.fit [] [(43, 1, 1), (52, 1, 0)] x = true)
    (Φ : Ending → World → Prop) (H0 : ∀ w', Err.find 52 x = none → Ext w w' → Φ (.returned (.bool false)) w')
    (H1 : ∀ y b w', Err.find 52 x = some y → RtE w ok y [.iface 52 (.pointer (some ⟨b, 0, none⟩))] → Err.fit [] [(43, 1, 1), (52, 1, 0)] y = true → (∀ z, v = .iface 52 z → z = .pointer (some ⟨b, 0, none⟩)) →
      Ext (w.setCell ⟨tb, 0, none⟩ (.pointer (some ⟨b, 0, none⟩))) w' → Φ (.returned (.bool true)) w') :
    Calls Tryd.prog 16 #[v, .iface 53 (.pointer (some ⟨tb, 0, none⟩))] w Φ := by
  obtain ⟨A0, A1⟩ : Hid (∀ w', Err.find 52 x = none → Ext w w' → Φ (.returned (.bool false)) w') ∧ Hid (∀ y b w', Err.find 52 x = some y → RtE w ok y [.iface 52 (.pointer (some ⟨b, 0, none⟩))] → Err.fit [] [(43, 1, 1), (52, 1, 0)] y = true → (∀ z, v = .iface 52 z → z = .pointer (some ⟨b, 0, none⟩)) →
      Ext (w.setCell ⟨tb, 0, none⟩ (.pointer (some ⟨b, 0, none⟩))) w' → Φ (.returned (.bool true)) w') := ⟨⟨H0⟩, ⟨H1⟩⟩
  clear H0 H1
  have hVO := @run_callFunc_extern Tryd.prog 20 _ (fun args => ReflectliteValue.unpack (args.getD 0 (.tuple #[]))) Tryd.func20 (by kernel_rfl) (by kernel_rfl) (by kernel_rfl) (by kernel_rfl)
  have hVT := @run_callFunc_extern Tryd.prog 21 _ (ReflectliteValue.methodAny (ReflectliteValue.valueError "reflectlite.Value.Type" 0) (fun t _ _ _ => ReflectliteType.toType t)) Tryd.func21 (by kernel_rfl) (by kernel_rfl) (by kernel_rfl) (by kernel_rfl)
  have hVN := @run_callFunc_extern Tryd.prog 22 _ (ReflectliteValue.method (ReflectliteValue.valueError "reflectlite.Value.IsNil" 0) ReflectliteValue.isNil) Tryd.func22 (by kernel_rfl) (by kernel_rfl) (by kernel_rfl) (by kernel_rfl)
  have hKD := @run_callFunc_extern Tryd.prog 42 _ (ReflectliteType.abiMethod fun t => do pure (.int .u8 (← Rtype.kind t))) Tryd.func42 (by kernel_rfl) (by kernel_rfl) (by kernel_rfl) (by kernel_rfl)
  have hRE := @run_callFunc_extern Tryd.prog 54 _ (ReflectliteType.method ReflectliteType.elem) Tryd.func54 (by kernel_rfl) (by kernel_rfl) (by kernel_rfl) (by kernel_rfl)
  have hRI := @run_callFunc_extern Tryd.prog 55 _ (ReflectliteType.relation "Implements" ReflectliteType.implements_) Tryd.func55 (by kernel_rfl) (by kernel_rfl) (by kernel_rfl) (by kernel_rfl)
  have f1 := valueOf53
  have f2 := type53
  have mK := mKind
  have mE := mElem
  have mI := mImpl
  have k1 := kind53
  have k2 := kind52
  have e1 := elem53
  have i1 := implements52
  have htl : tb < w.heap.size := cell_lt ht0
  have hgl : 0 < w.heap.size := cell_lt hg
  have n1 := isNil53 ⟨w.heap.size, 0, none⟩ ⟨tb, 0, none⟩ ((w.alloc (.cells #[.pointer (some ⟨tb, 0, none⟩)] 53)).alloc (.cells #[.pointer (some ⟨1, 53, none⟩), .pointer (some ⟨w.heap.size, 0, none⟩), .int .u64 150] 58)) (by simp)
  have hg2 : ((w.alloc (.cells #[.pointer (some ⟨tb, 0, none⟩)] 53)).alloc (.cells #[.pointer (some ⟨1, 53, none⟩), .pointer (some ⟨w.heap.size, 0, none⟩), .int .u64 150] 58)).cell? ⟨0, 0, none⟩ = some (.iface 73 (.agg #[.pointer (some ⟨1, 39, none⟩)])) := by
    rw [World.cell?_alloc_lt _ _ ⟨0, 0, none⟩ (by simp), World.cell?_alloc_lt _ _ ⟨0, 0, none⟩ hgl]; exact hg
  have hE : Ext w ((w.alloc (.cells #[.pointer (some ⟨tb, 0, none⟩)] 53)).alloc (.cells #[.pointer (some ⟨1, 53, none⟩), .pointer (some ⟨w.heap.size, 0, none⟩), .int .u64 150] 58)) := ((Ext.refl w).alloc _).alloc _
  rcases rte_form hx with ⟨rfl, rfl⟩ | ⟨hn, t, z, rfl⟩
  · have e0 := eql_nil_nil Tryd.underlying39 (P := Tryd.prog)
    go_enter Tryd.func16, Tryd.ntmps16
    go_wp2
    exact A0.out _ rfl (Ext.refl w)
  · have e0 := eql_iface_nil Tryd.underlying39 t z (P := Tryd.prog)
    have hw := as_walk52 (ok := ok) (w0 := w) (w := (w.alloc (.cells #[.pointer (some ⟨tb, 0, none⟩)] 53)).alloc (.cells #[.pointer (some ⟨1, 53, none⟩), .pointer (some ⟨w.heap.size, 0, none⟩), .int .u64 150] 58)) (tb := tb) (vb := w.heap.size) (old := oldv) hE
      (by rw [World.cell?_alloc_lt _ _ ⟨tb, 0, none⟩ (by simp; omega), World.cell?_alloc_lt _ _ ⟨tb, 0, none⟩ htl]; exact ht0)
      (by rw [World.frozen?_alloc_old _ _ ⟨tb, 0, none⟩ (by simp; omega), World.frozen?_alloc_old _ _ ⟨tb, 0, none⟩ (Nat.ne_of_lt htl)]; exact hf0)
      (by rw [World.cell?_alloc_lt _ _ ⟨w.heap.size, 0, none⟩ (by simp), World.cell?_alloc_at _ _ _ _ (by simp)]; rfl) x _ hx hfit hn (fun e w' => (Err.find 52 x = none ∧ e = .returned (.bool false) ∧ Ext w w') ∨ AsHit52 w ok x (.iface t z) tb e w')
      (fun h => .inl ⟨h, rfl, hE.alloc _⟩) (fun y b h1 h2 h3 h4 => .inr ⟨y, b, h1, rfl, h2, h3, h4, ((hE.set htl _).alloc _).alloc _⟩)
    go_enter Tryd.func16, Tryd.ntmps16
    go_wp2_with (go_at_call 23; refine hw.mono ?_; rintro e w' (⟨h1, rfl, h2⟩ | ⟨y, b, h1, rfl, h2, h3, h4, h5⟩))
    · skip
      exact A0.out _ h1 h2
    · skip
      exact A1.out y b _ h1 h2 h3 h4 h5
def den52 (y : Err) : (Int × (Err × Unit)) := ((Err.num 0 y), (Err.inner y), ())
theorem den_rt52 {x : Err} (hfit : Err.fit [] [(43, 1, 1), (52, 1, 0)] x = true) (ok : Nat → Prop) (w : World) (y : Err) (b : Nat) (hy : Err.find 52 x = some y) (hyr : RtE w ok y [.iface 52 (.pointer (some ⟨b, 0, none⟩))]) :
    ok b ∧ b < w.heap.size ∧ ∃ ecs, Lies w b 0 ecs ∧ Rt w ok (.pair (.int .i64) (.pair .err .unit)) ecs (den52 y) := by
    rcases find_type hy with ⟨xs, rfl⟩ | ⟨pre, z, post, rfl⟩
    · have hm := fit_leaf (find_fit hfit hy)
      exact absurd hm (by simp)
    obtain ⟨hm, _⟩ := fit_wrap (find_fit hfit hy)
    simp only [List.mem_cons, List.not_mem_nil, or_false, Prod.mk.injEq] at hm
    have hp1 : pre.length = 1 := by omega
    have hp2 : post.length = 0 := by omega
    obtain ⟨b', c, hv, h1, h2, h3, h4, hz⟩ := hyr
    simp only [List.cons.injEq, Value.iface.injEq, Value.pointer.injEq, Option.some.injEq, Addr.mk.injEq, and_true, true_and] at hv
    subst hv
    match pre, post, hp1, hp2, h3, h4 with
    | [n0], [], _, _, h3, h4 =>
      have hI0 : inK .i64 n0 = true := h3 n0 (by simp)
      exact ⟨h1, h2, _, h4, ⟨[_], [_], rfl, ⟨rfl, hI0⟩, ⟨[_], [], rfl, hz, rfl⟩⟩⟩
theorem glob0 : glob 0 = some (.err (.raw 73 (.agg #[.pointer (some ⟨1, 39, none⟩)]))) := rfl
theorem pok_16 {R : Type} : ShOk (R := R) Tryd.prog glob raw 16 sh16 := by
  intro av es K r h
  unfold sh16 at h
  split at h
  · rename_i x
    obtain ⟨hf, h⟩ := gd_some h
    have H := as_ok (raw := raw) (f := 16) (x := x) (ty := (.pair (.pair (.int .i64) (.pair .err .unit)) (.pair (.int .i64) .unit))) (k := 43) (tpp := 45) (enter_of Tryd.func16 rfl rfl) glob0
      (fun ok w tb oldv hg ht hf0 v hx => as_call43 hg ht hf0 x v hx hf _ (fun w' h1 h2 => .inl ⟨h1, rfl, h2⟩) (fun y b w' h1 h2 h3 h4 h5 => .inr ⟨y, b, h1, rfl, h2, h5⟩)) (den := den43) (den_rt43 hf)
    unfold optK at h
    split at h
    · rename_i y hy; exact ⟨_, _, H.1 y hy, h⟩
    · rename_i hy; exact ⟨_, _, H.2 hy, h⟩
  · exact no_some h
end Go.Ab.T
