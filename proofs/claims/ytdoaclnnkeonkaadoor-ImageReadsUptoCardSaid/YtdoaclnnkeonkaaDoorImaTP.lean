/- errors.As, by its own text: what a call comes to. -/
import Derived.Test.YtdoaclnnkeonkaaDoorImaTA
import Derived.Test.YtdoaclnnkeonkaaDoorPrimX
import Derived.WalkKit
import Derived.LaidEql
import Derived.Stop.Asserts
import Derived.RowKitTokens
import Derived.Lib.Walk
namespace Go.Ab.T
open Go Go.Ab Go.Proofs Go.RowKit Go.Lib Go.Extern Go.Stop
set_option linter.unusedVariables false
set_option linter.unusedSimpArgs false
theorem rlm (z : Sem Value) (f : TypeId → Addr → Nat → Nat → Sem Value) (v : Value) :
  ReflectliteValue.method z f #[v] = (do match ← ReflectliteValue.parts v with | none => z | some (t, a, fl) => f t a fl (fl % 32)) := rfl
theorem rls (v x : Value) : ReflectliteValue.set #[v, x] = (do
  let (some (dst, a, fl), some (src, b, _)) := (← ReflectliteValue.parts v, ← ReflectliteValue.parts x)
   | unsupported (.noEntry "extern/(internal/reflectlite.Value).Set.zeroValue")
  if fl / ReflectliteValue.flagAddr % 2 == 0 then unsupported (.noEntry "extern/(internal/reflectlite.Value).Set.unaddressable")
  let val ← loadVar src b
  if ← Rtype.directlyAssignable dst src then storeVar dst a val
  else if ← Rtype.implements dst src then
   if (← Rtype.kind src) == 20 then
    match val with
    | .nilIface => unsupported (.noEntry "extern/reflectlite: a nil value of one interface type handed on as a value of another")
    | _ => storeVar dst a val
   else storeVar dst a (.iface src val)
  else panicString ("reflectlite.Set: value of type " ++ (← Rtype.spelt src) ++ " is not assignable to type " ++ (← Rtype.spelt dst))
  pure (.tuple #[])) := rfl
theorem typeOf67 (v : Value) (w : World) : (ReflectliteType.typeOf #[.iface 67 v]).run Tryd.prog w = .ok (.iface 114 (.agg #[.pointer (some ⟨1, 67, none⟩)])) w := by kernel_rfl
theorem noAs67 (v : Value) (xT : TypeId) (w : World) : (Instr.typeAssert (.iface 67 v) xT 119 true).run Tryd.prog w = .ok (.tuple #[.nilIface, .bool false]) w := run_typeAssert_lacksB Tryd.underlying119 (by kernel_rfl) (by kernel_rfl) v xT w
theorem assignable67_67 (w : World) : (ReflectliteType.relation "AssignableTo" ReflectliteType.assignableTo #[.agg #[.pointer (some ⟨1, 67, none⟩)], .iface 114 (.agg #[.pointer (some ⟨1, 67, none⟩)])]).run Tryd.prog w = .ok (.bool true) w := by kernel_rfl
theorem typeOf110 (v : Value) (w : World) : (ReflectliteType.typeOf #[.iface 110 v]).run Tryd.prog w = .ok (.iface 114 (.agg #[.pointer (some ⟨1, 110, none⟩)])) w := by kernel_rfl
theorem noAs110 (v : Value) (xT : TypeId) (w : World) : (Instr.typeAssert (.iface 110 v) xT 119 true).run Tryd.prog w = .ok (.tuple #[.nilIface, .bool false]) w := run_typeAssert_lacksB Tryd.underlying119 (by kernel_rfl) (by kernel_rfl) v xT w
theorem hasUw110 (v : Value) (xT : TypeId) (w : World) : (Instr.typeAssert (.iface 110 v) xT 122 true).run Tryd.prog w = .ok (.tuple #[.iface 110 v, .bool true]) w := run_typeAssert_hasB Tryd.underlying122 (by kernel_rfl) v xT w
theorem mUw110 (b : Nat) (w : World) : (Go.method 262 110 (.pointer (some ⟨b, 0, none⟩)) "Unwrap").run Tryd.prog w = .ok (92, .pointer (some ⟨b, 0, none⟩)) w := by kernel_rfl
theorem assignable110_67 (w : World) : (ReflectliteType.relation "AssignableTo" ReflectliteType.assignableTo #[.agg #[.pointer (some ⟨1, 110, none⟩)], .iface 114 (.agg #[.pointer (some ⟨1, 67, none⟩)])]).run Tryd.prog w = .ok (.bool false) w := by kernel_rfl
theorem mAsg (h : Value) (w : World) : (Go.method 262 114 (.agg #[h]) "AssignableTo").run Tryd.prog w = .ok (94, .agg #[h]) w := by kernel_rfl
theorem mKind (h : Value) (w : World) : (Go.method 262 114 (.agg #[h]) "Kind").run Tryd.prog w = .ok (83, h) w := by kernel_rfl
theorem mElem (h : Value) (w : World) : (Go.method 262 114 (.agg #[h]) "Elem").run Tryd.prog w = .ok (96, .agg #[h]) w := by kernel_rfl
theorem mImpl (h : Value) (w : World) : (Go.method 262 114 (.agg #[h]) "Implements").run Tryd.prog w = .ok (97, .agg #[h]) w := by kernel_rfl
theorem valueOf69 (t : Addr) (w : World) : (ReflectliteValue.unpack (.iface 69 (.pointer (some t)))).run Tryd.prog w = .ok (.agg #[.pointer (some ⟨1, 69, none⟩), .pointer (some ⟨w.heap.size, 0, none⟩), .int .u64 150]) (w.alloc (.cells #[.pointer (some t)] 69)) := by kernel_rfl
theorem type69 (a : Addr) (w : World) : (ReflectliteValue.methodAny (ReflectliteValue.valueError "reflectlite.Value.Type" 0) (fun t _ _ _ => ReflectliteType.toType t) #[.agg #[.pointer (some ⟨1, 69, none⟩), .pointer (some a), .int .u64 150]]).run Tryd.prog w = .ok (.iface 114 (.agg #[.pointer (some ⟨1, 69, none⟩)])) w := by kernel_rfl
theorem kind69 (w : World) : ((ReflectliteType.abiMethod fun t => (fun a : Nat => Value.int IntKind.u8 (a : Int)) <$> Rtype.kind t) #[.pointer (some ⟨1, 69, none⟩)]).run Tryd.prog w = .ok (.int .u8 22) w := by kernel_rfl
theorem kind67 (w : World) : ((ReflectliteType.abiMethod fun t => (fun a : Nat => Value.int IntKind.u8 (a : Int)) <$> Rtype.kind t) #[.pointer (some ⟨1, 67, none⟩)]).run Tryd.prog w = .ok (.int .u8 22) w := by kernel_rfl
theorem parts69 (a : Addr) (w : World) : (ReflectliteValue.parts (.agg #[.pointer (some ⟨1, 69, none⟩), .pointer (some a), .int .u64 150])).run Tryd.prog w = .ok (some (69, a, 150)) w := by kernel_rfl
theorem isNil69 (a p : Addr) (W : World) (ha : W.cell? a = some (.pointer (some p))) :
  (ReflectliteValue.method (ReflectliteValue.valueError "reflectlite.Value.IsNil" 0) ReflectliteValue.isNil #[.agg #[.pointer (some ⟨1, 69, none⟩), .pointer (some a), .int .u64 150]]).run Tryd.prog W = .ok (.bool false) W := by
 rw [rlm]
 simp only [Sem.run_bind, parts69, Result.andThen]
 simp [ReflectliteValue.isNil, loadVar, isAgg, underlying, Tryd.underlying69, ha, Result.andThen]
theorem elem69 (w : World) : (ReflectliteType.method ReflectliteType.elem #[.agg #[.pointer (some ⟨1, 69, none⟩)]]).run Tryd.prog w = .ok (.iface 114 (.agg #[.pointer (some ⟨1, 67, none⟩)])) w := by kernel_rfl
theorem implements67 (w : World) : (ReflectliteType.relation "Implements" ReflectliteType.implements_ #[.agg #[.pointer (some ⟨1, 67, none⟩)], .iface 114 (.agg #[.pointer (some ⟨1, 64, none⟩)])]).run Tryd.prog w = .ok (.bool true) w := by kernel_rfl
theorem valueOf67 (e : Addr) (w : World) : (ReflectliteValue.unpack (.iface 67 (.pointer (some e)))).run Tryd.prog w = .ok (.agg #[.pointer (some ⟨1, 67, none⟩), .pointer (some ⟨w.heap.size, 0, none⟩), .int .u64 150]) (w.alloc (.cells #[.pointer (some e)] 67)) := by kernel_rfl
theorem elemOf69 (w : World) : (Rtype.elem? 69).run Tryd.prog w = .ok (some 67) w := by kernel_rfl
theorem mk67 (p : Addr) (w : World) : (ReflectliteValue.mk 67 p ReflectliteValue.flagAddr).run Tryd.prog w = .ok (.agg #[.pointer (some ⟨1, 67, none⟩), .pointer (some p), .int .u64 406]) w := by kernel_rfl
theorem elemV69 (a p : Addr) (W : World) (ha : W.cell? a = some (.pointer (some p))) :
  (ReflectliteValue.method (ReflectliteValue.valueError "reflectlite.Value.Elem" 0) ReflectliteValue.elem #[.agg #[.pointer (some ⟨1, 69, none⟩), .pointer (some a), .int .u64 150]]).run Tryd.prog W
   = .ok (.agg #[.pointer (some ⟨1, 67, none⟩), .pointer (some p), .int .u64 406]) W := by
 rw [rlm]
 simp only [Sem.run_bind, parts69, Result.andThen]
 simp [ReflectliteValue.elem, loadVar, isAgg, underlying, Tryd.underlying69, ha, Result.andThen, elemOf69, mk67]
theorem parts67a (a : Addr) (w : World) : (ReflectliteValue.parts (.agg #[.pointer (some ⟨1, 67, none⟩), .pointer (some a), .int .u64 406])).run Tryd.prog w = .ok (some (67, a, 406)) w := by kernel_rfl
theorem parts67 (a : Addr) (w : World) : (ReflectliteValue.parts (.agg #[.pointer (some ⟨1, 67, none⟩), .pointer (some a), .int .u64 150])).run Tryd.prog w = .ok (some (67, a, 150)) w := by kernel_rfl
theorem direct67 (w : World) : (Rtype.directlyAssignable 67 67).run Tryd.prog w = .ok true w := by kernel_rfl
theorem size67 (w : World) : (sizeOf 67).run Tryd.prog w = .ok 1 w := by kernel_rfl
theorem set67 (ta b e : Addr) (old : Value) (W : World) (hb : W.cell? b = some (.pointer (some e))) (ht : W.cell? ta = some old) (hf : W.frozen? ta = false) :
  (ReflectliteValue.set #[.agg #[.pointer (some ⟨1, 67, none⟩), .pointer (some ta), .int .u64 406], .agg #[.pointer (some ⟨1, 67, none⟩), .pointer (some b), .int .u64 150]]).run Tryd.prog W
   = .ok (.tuple #[]) (W.setCell ta (.pointer (some e))) := by
 rw [rls]
 simp only [Sem.run_bind, parts67a, parts67, Result.andThen]
 simp [ReflectliteValue.flagAddr, loadVar, isAgg, underlying, Tryd.underlying67, hb, Result.andThen, direct67, storeVar, Value.cells, storeCells, Addr.add]
 rw [run_store Tryd.prog W ta _ _ (by rfl)]
 simp [ht, hf]
set_option maxHeartbeats 8000000 in
set_option maxRecDepth 100000 in
theorem as_walk67 {ok : Nat → Prop} {w0 w : World} {tb vb : Nat} {old : Value} (hE : Ext w0 w) (ht0 : w.cell? ⟨tb, 0, none⟩ = some old) (hf0 : w.frozen? ⟨tb, 0, none⟩ = false) (hv0 : w.cell? ⟨vb, 0, none⟩ = some (.pointer (some ⟨tb, 0, none⟩)))
  (x : Err) (v : Value) (hx : RtE w0 ok x [v]) (hfit : Err.fit [(67, 1)] [(110, 0, 0)] x = true) (hnil : x.isNil = false)
  (Φ : Ending → World → Prop) (H0 : Err.find 67 x = none → Φ (.returned (.bool false)) (w.alloc (.cells #[.pointer (some ⟨1, 69, none⟩), .pointer (some ⟨vb, 0, none⟩), .int .u64 150] 87)))
  (H1 : ∀ y b, Err.find 67 x = some y → RtE w0 ok y [.iface 67 (.pointer (some ⟨b, 0, none⟩))] → Err.fit [(67, 1)] [(110, 0, 0)] y = true → (∀ z, v = .iface 67 z → z = .pointer (some ⟨b, 0, none⟩)) →
   Φ (.returned (.bool true)) (((w.setCell ⟨tb, 0, none⟩ (.pointer (some ⟨b, 0, none⟩))).alloc (.cells #[.pointer (some ⟨1, 69, none⟩), .pointer (some ⟨vb, 0, none⟩), .int .u64 150] 87)).alloc (.cells #[.pointer (some ⟨b, 0, none⟩)] 67))) :
  Calls Tryd.prog 51 #[v, .iface 69 (.pointer (some ⟨tb, 0, none⟩)), .agg #[.pointer (some ⟨1, 69, none⟩), .pointer (some ⟨vb, 0, none⟩), .int .u64 150], .iface 114 (.agg #[.pointer (some ⟨1, 67, none⟩)])] w Φ := by
 obtain ⟨A0, A1⟩ : Hid (Err.find 67 x = none → Φ (.returned (.bool false)) (w.alloc (.cells #[.pointer (some ⟨1, 69, none⟩), .pointer (some ⟨vb, 0, none⟩), .int .u64 150] 87))) ∧ Hid (∀ y b, Err.find 67 x = some y → RtE w0 ok y [.iface 67 (.pointer (some ⟨b, 0, none⟩))] → Err.fit [(67, 1)] [(110, 0, 0)] y = true → (∀ z, v = .iface 67 z → z = .pointer (some ⟨b, 0, none⟩)) →
   Φ (.returned (.bool true)) (((w.setCell ⟨tb, 0, none⟩ (.pointer (some ⟨b, 0, none⟩))).alloc (.cells #[.pointer (some ⟨1, 69, none⟩), .pointer (some ⟨vb, 0, none⟩), .int .u64 150] 87)).alloc (.cells #[.pointer (some ⟨b, 0, none⟩)] 67))) := ⟨⟨H0⟩, ⟨H1⟩⟩
 clear H0 H1
 have hTO := @run_callFunc_extern Tryd.prog 64 _ ReflectliteType.typeOf Tryd.func64 (by kernel_rfl) (by kernel_rfl) (by kernel_rfl) (by kernel_rfl)
 have hRA := @run_callFunc_extern Tryd.prog 94 _ (ReflectliteType.relation "AssignableTo" ReflectliteType.assignableTo) Tryd.func94 (by kernel_rfl) (by kernel_rfl) (by kernel_rfl) (by kernel_rfl)
 have hVO := @run_callFunc_extern Tryd.prog 48 _ (fun args => ReflectliteValue.unpack (args.getD 0 (.tuple #[]))) Tryd.func48 (by kernel_rfl) (by kernel_rfl) (by kernel_rfl) (by kernel_rfl)
 have hVE := @run_callFunc_extern Tryd.prog 65 _ (ReflectliteValue.method (ReflectliteValue.valueError "reflectlite.Value.Elem" 0) ReflectliteValue.elem) Tryd.func65 (by kernel_rfl) (by kernel_rfl) (by kernel_rfl) (by kernel_rfl)
 have hVS := @run_callFunc_extern Tryd.prog 66 _ ReflectliteValue.set Tryd.func66 (by kernel_rfl) (by kernel_rfl) (by kernel_rfl) (by kernel_rfl)
 have t67 := typeOf67
 have a67 := assignable67_67
 have n67 := noAs67
 have t110 := typeOf110
 have a110 := assignable110_67
 have n110 := noAs110
 have u110 := hasUw110
 have m110 := mUw110
 have mA := mAsg
 go_enter Tryd.func51, Tryd.ntmps51
 go_wp2
 refine LoopWp.loop ?_
 refine (?_ : ∀ (x' : Err) (v' c4 c5 c7 c8 c9 c10 c11 c12 c13 c14 c15 c16 c17 c18 c19 c20 c21 c22 c23 c24 c25 c26 c27 c28 c29 c30 c31 c32 c33 c34 c35 c36 c37 c38 c39 c40 c41 c42 c43 c44 c45 c46 c47 c48 c49 c50 c51 c52 c53 c54 c55 c56 c57 c58 c59 c60 c61 : Value), RtE w0 ok x' [v'] → Err.fit [(67, 1)] [(110, 0, 0)] x' = true → x'.isNil = false → Err.find 67 x' = Err.find 67 x → (∀ z, v = .iface 67 z → v' = .iface 67 z) → LoopWp _ _ _ ⟨#[v', .iface 69 (.pointer (some ⟨tb, 0, none⟩)), .agg #[.pointer (some ⟨1, 69, none⟩), .pointer (some ⟨vb, 0, none⟩), .int .u64 150], .iface 114 (.agg #[.pointer (some ⟨1, 67, none⟩)]), c4, c5, .pointer (some ⟨w.heap.size, 0, none⟩), c7, c8, c9, c10, c11, c12, c13, c14, c15, c16, c17, c18, c19, c20, c21, c22, c23, c24, c25, c26, c27, c28, c29, c30, c31, c32, c33, c34, c35, c36, c37, c38, c39, c40, c41, c42, c43, c44, c45, c46, c47, c48, c49, c50, c51, c52, c53, c54, c55, c56, c57, c58, c59, c60, c61], []⟩ (w.alloc (.cells #[.pointer (some ⟨1, 69, none⟩), .pointer (some ⟨vb, 0, none⟩), .int .u64 150] 87))) x v _ _ _ _ _ _ _ _ _ _ _ _ _ _ _ _ _ _ _ _ _ _ _ _ _ _ _ _ _ _ _ _ _ _ _ _ _ _ _ _ _ _ _ _ _ _ _ _ _ _ _ _ _ _ _ _ _ hx hfit hnil rfl (fun _ h => h)
 intro x'
 have hvlt : vb < w.heap.size := cell_lt hv0
 have htlt : tb < w.heap.size := cell_lt ht0
 have el := elemV69 ⟨vb, 0, none⟩ ⟨tb, 0, none⟩ (w.alloc (.cells #[.pointer (some ⟨1, 69, none⟩), .pointer (some ⟨vb, 0, none⟩), .int .u64 150] 87)) (by rw [World.cell?_alloc_lt _ _ ⟨vb, 0, none⟩ hvlt]; exact hv0)
 have vo := valueOf67
 have st := fun e : Nat => set67 ⟨tb, 0, none⟩ ⟨w.heap.size + 1, 0, none⟩ ⟨e, 0, none⟩ old ((w.alloc (.cells #[.pointer (some ⟨1, 69, none⟩), .pointer (some ⟨vb, 0, none⟩), .int .u64 150] 87)).alloc (.cells #[.pointer (some ⟨e, 0, none⟩)] 67))
  (by rw [World.cell?_alloc_at _ _ _ _ (by simp)]; rfl)
  (by rw [World.cell?_alloc_lt _ _ ⟨tb, 0, none⟩ (by simp; omega), World.cell?_alloc_lt _ _ ⟨tb, 0, none⟩ htlt]; exact ht0)
  (by rw [World.frozen?_alloc_old _ _ ⟨tb, 0, none⟩ (by simp; omega), World.frozen?_alloc_old _ _ ⟨tb, 0, none⟩ (Nat.ne_of_lt htlt)]; exact hf0)
 induction x' with
 | nil => intro v' c4 c5 c7 c8 c9 c10 c11 c12 c13 c14 c15 c16 c17 c18 c19 c20 c21 c22 c23 c24 c25 c26 c27 c28 c29 c30 c31 c32 c33 c34 c35 c36 c37 c38 c39 c40 c41 c42 c43 c44 c45 c46 c47 c48 c49 c50 c51 c52 c53 c54 c55 c56 c57 c58 c59 c60 c61 hx hfit hnil hfd hvv; simp [Err.isNil] at hnil
 | raw t z => intro v' c4 c5 c7 c8 c9 c10 c11 c12 c13 c14 c15 c16 c17 c18 c19 c20 c21 c22 c23 c24 c25 c26 c27 c28 c29 c30 c31 c32 c33 c34 c35 c36 c37 c38 c39 c40 c41 c42 c43 c44 c45 c46 c47 c48 c49 c50 c51 c52 c53 c54 c55 c56 c57 c58 c59 c60 c61 hx hfit hnil hfd hvv; simp [Err.fit] at hfit
 | leaf u xs =>
  intro v' c4 c5 c7 c8 c9 c10 c11 c12 c13 c14 c15 c16 c17 c18 c19 c20 c21 c22 c23 c24 c25 c26 c27 c28 c29 c30 c31 c32 c33 c34 c35 c36 c37 c38 c39 c40 c41 c42 c43 c44 c45 c46 c47 c48 c49 c50 c51 c52 c53 c54 c55 c56 c57 c58 c59 c60 c61 hx hfit hnil hfd hvv
  obtain ⟨b, hv, hb1, hb2, hb3, hb4⟩ := hx
  simp only [List.cons.injEq, and_true] at hv
  subst hv
  have hm := fit_leaf hfit
  simp only [List.mem_cons, List.not_mem_nil, or_false, Prod.mk.injEq] at hm
  ·obtain ⟨rfl, hp1⟩ := hm
   refine LoopWp.step ?_
   go_wp2
   exact A1.out (.leaf _ xs) b (by rw [← hfd]; simp [Err.find]) (⟨b, rfl, hb1, hb2, hb3, hb4⟩) hfit (fun z hz => by have := hvv z hz; simpa using this.symm)
 | wrap u pre y post ih =>
  intro v' c4 c5 c7 c8 c9 c10 c11 c12 c13 c14 c15 c16 c17 c18 c19 c20 c21 c22 c23 c24 c25 c26 c27 c28 c29 c30 c31 c32 c33 c34 c35 c36 c37 c38 c39 c40 c41 c42 c43 c44 c45 c46 c47 c48 c49 c50 c51 c52 c53 c54 c55 c56 c57 c58 c59 c60 c61 hx hfit hnil hfd hvv
  have hx0 := hx
  obtain ⟨b, c, hv, hb1, hb2, hb3, hb4, hy⟩ := hx
  simp only [List.cons.injEq, and_true] at hv
  subst hv
  obtain ⟨hm, hfy⟩ := fit_wrap hfit
  simp only [List.mem_cons, List.not_mem_nil, or_false, Prod.mk.injEq] at hm
  ·obtain ⟨rfl, hp1, hp2⟩ := hm
   have hc : (w.alloc (.cells #[.pointer (some ⟨1, 69, none⟩), .pointer (some ⟨vb, 0, none⟩), .int .u64 150] 87)).cell? ⟨b, 0, none⟩ = some c := by
    rw [World.cell?_alloc_lt _ _ ⟨b, 0, none⟩ (Nat.lt_of_lt_of_le hb2 hE.size)]
    have := hE.cell (hb4 pre.length c (by simp [intsV]))
    rw [hp1] at this
    simpa using this
   rcases rte_form hy with ⟨rfl, rfl⟩ | ⟨hny, t, z, rfl⟩
   ·have e0 := eql_nil_nil Tryd.underlying64 (P := Tryd.prog)
    refine LoopWp.step ?_
    go_wp2
    exact A0.out (by rw [← hfd]; simp [Err.find])
   ·have e0 := eql_iface_nil Tryd.underlying64 t z (P := Tryd.prog)
    refine LoopWp.step ?_
    go_wp2
    exact ih _ _ _ _ _ _ _ _ _ _ _ _ _ _ _ _ _ _ _ _ _ _ _ _ _ _ _ _ _ _ _ _ _ _ _ _ _ _ _ _ _ _ _ _ _ _ _ _ _ _ _ _ _ _ _ _ _ _ hy hfy hny (by rw [← hfd]; simp [Err.find]) (fun z hz => by have := hvv z hz; simp at this)
def AsHit67 (w : World) (ok : Nat → Prop) (x : Err) (v : Value) (tb : Nat) (e : Ending) (w' : World) : Prop :=
 ∃ y b, Err.find 67 x = some y ∧ e = .returned (.bool true) ∧ RtE w ok y [.iface 67 (.pointer (some ⟨b, 0, none⟩))] ∧ Err.fit [(67, 1)] [(110, 0, 0)] y = true ∧ (∀ z, v = .iface 67 z → z = .pointer (some ⟨b, 0, none⟩)) ∧ Ext (w.setCell ⟨tb, 0, none⟩ (.pointer (some ⟨b, 0, none⟩))) w'
set_option maxHeartbeats 8000000 in
set_option maxRecDepth 100000 in
theorem as_call67 {ok : Nat → Prop} {w : World} {tb : Nat} {oldv : Value} (hg : w.cell? ⟨0, 0, none⟩ = some (.iface 114 (.agg #[.pointer (some ⟨1, 64, none⟩)]))) (ht0 : w.cell? ⟨tb, 0, none⟩ = some oldv) (hf0 : w.frozen? ⟨tb, 0, none⟩ = false)
  (x : Err) (v : Value) (hx : RtE w ok x [v]) (hfit : Err.fit [(67, 1)] [(110, 0, 0)] x = true)
  (Φ : Ending → World → Prop) (H0 : ∀ w', Err.find 67 x = none → Ext w w' → Φ (.returned (.bool false)) w')
  (H1 : ∀ y b w', Err.find 67 x = some y → RtE w ok y [.iface 67 (.pointer (some ⟨b, 0, none⟩))] → Err.fit [(67, 1)] [(110, 0, 0)] y = true → (∀ z, v = .iface 67 z → z = .pointer (some ⟨b, 0, none⟩)) →
   Ext (w.setCell ⟨tb, 0, none⟩ (.pointer (some ⟨b, 0, none⟩))) w' → Φ (.returned (.bool true)) w') :
  Calls Tryd.prog 37 #[v, .iface 69 (.pointer (some ⟨tb, 0, none⟩))] w Φ := by
 obtain ⟨A0, A1⟩ : Hid (∀ w', Err.find 67 x = none → Ext w w' → Φ (.returned (.bool false)) w') ∧ Hid (∀ y b w', Err.find 67 x = some y → RtE w ok y [.iface 67 (.pointer (some ⟨b, 0, none⟩))] → Err.fit [(67, 1)] [(110, 0, 0)] y = true → (∀ z, v = .iface 67 z → z = .pointer (some ⟨b, 0, none⟩)) →
   Ext (w.setCell ⟨tb, 0, none⟩ (.pointer (some ⟨b, 0, none⟩))) w' → Φ (.returned (.bool true)) w') := ⟨⟨H0⟩, ⟨H1⟩⟩
 clear H0 H1
 have hVO := @run_callFunc_extern Tryd.prog 48 _ (fun args => ReflectliteValue.unpack (args.getD 0 (.tuple #[]))) Tryd.func48 (by kernel_rfl) (by kernel_rfl) (by kernel_rfl) (by kernel_rfl)
 have hVT := @run_callFunc_extern Tryd.prog 49 _ (ReflectliteValue.methodAny (ReflectliteValue.valueError "reflectlite.Value.Type" 0) (fun t _ _ _ => ReflectliteType.toType t)) Tryd.func49 (by kernel_rfl) (by kernel_rfl) (by kernel_rfl) (by kernel_rfl)
 have hVN := @run_callFunc_extern Tryd.prog 50 _ (ReflectliteValue.method (ReflectliteValue.valueError "reflectlite.Value.IsNil" 0) ReflectliteValue.isNil) Tryd.func50 (by kernel_rfl) (by kernel_rfl) (by kernel_rfl) (by kernel_rfl)
 have hKD := @run_callFunc_extern Tryd.prog 83 _ (ReflectliteType.abiMethod fun t => do pure (.int .u8 (← Rtype.kind t))) Tryd.func83 (by kernel_rfl) (by kernel_rfl) (by kernel_rfl) (by kernel_rfl)
 have hRE := @run_callFunc_extern Tryd.prog 96 _ (ReflectliteType.method ReflectliteType.elem) Tryd.func96 (by kernel_rfl) (by kernel_rfl) (by kernel_rfl) (by kernel_rfl)
 have hRI := @run_callFunc_extern Tryd.prog 97 _ (ReflectliteType.relation "Implements" ReflectliteType.implements_) Tryd.func97 (by kernel_rfl) (by kernel_rfl) (by kernel_rfl) (by kernel_rfl)
 have f1 := valueOf69
 have f2 := type69
 have mK := mKind
 have mE := mElem
 have mI := mImpl
 have k1 := kind69
 have k2 := kind67
 have e1 := elem69
 have i1 := implements67
 have htl : tb < w.heap.size := cell_lt ht0
 have hgl : 0 < w.heap.size := cell_lt hg
 have n1 := isNil69 ⟨w.heap.size, 0, none⟩ ⟨tb, 0, none⟩ ((w.alloc (.cells #[.pointer (some ⟨tb, 0, none⟩)] 69)).alloc (.cells #[.pointer (some ⟨1, 69, none⟩), .pointer (some ⟨w.heap.size, 0, none⟩), .int .u64 150] 87)) (by simp)
 have hg2 : ((w.alloc (.cells #[.pointer (some ⟨tb, 0, none⟩)] 69)).alloc (.cells #[.pointer (some ⟨1, 69, none⟩), .pointer (some ⟨w.heap.size, 0, none⟩), .int .u64 150] 87)).cell? ⟨0, 0, none⟩ = some (.iface 114 (.agg #[.pointer (some ⟨1, 64, none⟩)])) := by
  rw [World.cell?_alloc_lt _ _ ⟨0, 0, none⟩ (by simp), World.cell?_alloc_lt _ _ ⟨0, 0, none⟩ hgl]; exact hg
 have hE : Ext w ((w.alloc (.cells #[.pointer (some ⟨tb, 0, none⟩)] 69)).alloc (.cells #[.pointer (some ⟨1, 69, none⟩), .pointer (some ⟨w.heap.size, 0, none⟩), .int .u64 150] 87)) := ((Ext.refl w).alloc _).alloc _
 rcases rte_form hx with ⟨rfl, rfl⟩ | ⟨hn, t, z, rfl⟩
 ·have e0 := eql_nil_nil Tryd.underlying64 (P := Tryd.prog)
  go_enter Tryd.func37, Tryd.ntmps37
  go_wp2
  exact A0.out _ rfl (Ext.refl w)
 ·have e0 := eql_iface_nil Tryd.underlying64 t z (P := Tryd.prog)
  have hw := as_walk67 (ok := ok) (w0 := w) (w := (w.alloc (.cells #[.pointer (some ⟨tb, 0, none⟩)] 69)).alloc (.cells #[.pointer (some ⟨1, 69, none⟩), .pointer (some ⟨w.heap.size, 0, none⟩), .int .u64 150] 87)) (tb := tb) (vb := w.heap.size) (old := oldv) hE
   (by rw [World.cell?_alloc_lt _ _ ⟨tb, 0, none⟩ (by simp; omega), World.cell?_alloc_lt _ _ ⟨tb, 0, none⟩ htl]; exact ht0)
   (by rw [World.frozen?_alloc_old _ _ ⟨tb, 0, none⟩ (by simp; omega), World.frozen?_alloc_old _ _ ⟨tb, 0, none⟩ (Nat.ne_of_lt htl)]; exact hf0)
   (by rw [World.cell?_alloc_lt _ _ ⟨w.heap.size, 0, none⟩ (by simp), World.cell?_alloc_at _ _ _ _ (by simp)]; rfl) x _ hx hfit hn (fun e w' => (Err.find 67 x = none ∧ e = .returned (.bool false) ∧ Ext w w') ∨ AsHit67 w ok x (.iface t z) tb e w')
   (fun h => .inl ⟨h, rfl, hE.alloc _⟩) (fun y b h1 h2 h3 h4 => .inr ⟨y, b, h1, rfl, h2, h3, h4, ((hE.set htl _).alloc _).alloc _⟩)
  go_enter Tryd.func37, Tryd.ntmps37
  go_wp2_with (go_at_call 51; refine hw.mono ?_; rintro e w' (⟨h1, rfl, h2⟩ | ⟨y, b, h1, rfl, h2, h3, h4, h5⟩))
  ·skip
   exact A0.out _ h1 h2
  ·skip
   exact A1.out y b _ h1 h2 h3 h4 h5
def den67 (y : Err) : (Int × Unit) := ((Err.num 0 y), ())
theorem den_rt67 {x : Err} (hfit : Err.fit [(67, 1)] [(110, 0, 0)] x = true) (ok : Nat → Prop) (w : World) (y : Err) (b : Nat) (hy : Err.find 67 x = some y) (hyr : RtE w ok y [.iface 67 (.pointer (some ⟨b, 0, none⟩))]) :
  ok b ∧ b < w.heap.size ∧ ∃ ecs, Lies w b 0 ecs ∧ Rt w ok (.pair (.int .i64) .unit) ecs (den67 y) := by
  rcases find_type hy with ⟨xs, rfl⟩ | ⟨pre, z, post, rfl⟩
  rotate_left
  ·have hm := (fit_wrap (find_fit hfit hy)).1
   simp at hm
  have hm := fit_leaf (find_fit hfit hy)
  have hp1 : xs.length = 1 := by simp at hm; first | exact hm | omega
  obtain ⟨b', hv, h1, h2, h3, h4⟩ := hyr
  simp only [List.cons.injEq, Value.iface.injEq, Value.pointer.injEq, Option.some.injEq, Addr.mk.injEq, and_true, true_and] at hv
  subst hv
  match xs, hp1, h3, h4 with
  | [n0], _, h3, h4 =>
   have hI0 : inK .i64 n0 = true := h3 n0 (by simp)
   exact ⟨h1, h2, _, h4, ⟨[_], [], rfl, ⟨rfl, hI0⟩, rfl⟩⟩
theorem glob0 : glob 0 = some (.err (.raw 114 (.agg #[.pointer (some ⟨1, 64, none⟩)]))) := rfl
theorem pok_37 {R : Type} : ShOk (R := R) Tryd.prog glob raw 37 sh37 := by
 intro av es K r h
 unfold sh37 at h
 split at h
 ·rename_i x
  obtain ⟨hf, h⟩ := gd_some h
  have H := as_ok (raw := raw) (f := 37) (x := x) (ty := (.pair (.int .i64) .unit)) (k := 67) (tpp := 69) (enter_of Tryd.func37 rfl rfl) glob0
   (fun ok w tb oldv hg ht hf0 v hx => as_call67 hg ht hf0 x v hx hf _ (fun w' h1 h2 => .inl ⟨h1, rfl, h2⟩) (fun y b w' h1 h2 h3 h4 h5 => .inr ⟨y, b, h1, rfl, h2, h5⟩)) (den := den67) (den_rt67 hf)
  unfold optK at h
  split at h
  ·rename_i y hy; exact ⟨_, _, H.1 y hy, h⟩
  ·rename_i hy; exact ⟨_, _, H.2 hy, h⟩
 ·exact no_some h
section
set_option linter.unusedSimpArgs false
theorem spoil_walk21 (w : World) (b o n cap : Nat) (hn : n ≤ cap) (hm : cap ≤ CAPM) (h : ∀ i, i < cap → (w.cell? ⟨b, o + i, none⟩).isSome ∧ w.frozen? ⟨b, o + i, none⟩ = false) :
  Calls Tryd.prog 21 #[.slice (some ⟨b, o, none⟩) n cap] w fun e w' => e = .returned (.tuple #[]) ∧ w' = spW w b o cap := by
 have hsp := sp_cell w b o cap h
 clear h
 have hm : cap ≤ 9223372036854775807 := hm
 have HH : Hid (∀ k i, i < cap → (∃ v, (spW w b o k).cell? ⟨b, o + i, none⟩ = some v) ∧ (spW w b o k).frozen? ⟨b, o + i, none⟩ = false) := ⟨hsp⟩
 clear hsp
 go_enter Tryd.func21, Tryd.ntmps21
 go_wp2
 go_loopw [3] (fun vi wr => ∃ k : Nat, vi = .int .i64 (k : Int) ∧ k ≤ cap ∧ wr = spW w b o k) (fun vi _ => cap - (RowKit.intOf vi).toNat)
 case atStart => exact ⟨0, rfl, Nat.zero_le _, rfl⟩
 case round =>
  obtain ⟨k, rfl, hk, hw⟩ := hrel
  by_cases hlt : k < cap
  ·obtain ⟨⟨v0, h1⟩, h2⟩ := HH.out k k hlt
   rw [← hw] at h1 h2
   have HW : Hid (wr = spW w b o k) := ⟨hw⟩
   clear hw
   go_wp2
   go_roundw
   case measure => simp [RowKit.intOf]; omega
   case rel =>
    refine ⟨k + 1, by congr 1, by omega, ?_⟩
    rw [HW.out]; rfl
  ·have hkc : k = cap := by omega
   subst hkc
   have HW : Hid (wr = spW w b o k) := ⟨hw⟩
   clear hw
   go_wp2
   go_end0
   exact ⟨rfl, HW.out⟩
theorem spoil_none21 (a : Option Addr) (w : World) : Calls Tryd.prog 21 #[.slice a 0 0] w fun e w' => e = .returned (.tuple #[]) ∧ w' = w := by
 go_enter Tryd.func21, Tryd.ntmps21
 cases a <;>
 (go_wp2
  go_loopw [3] (fun vi wr => vi = .int .i64 0 ∧ wr = w) (fun vi _ => 0)
  case atStart => exact ⟨rfl, rfl⟩
  case round =>
   obtain ⟨rfl, hw⟩ := hrel
   have HW : Hid (wr = w) := ⟨hw⟩
   clear hw
   go_wp2
   go_end0
   exact ⟨rfl, HW.out⟩)
theorem spw21 : SpWalk Tryd.prog 21 := ⟨fun a w => enter_of Tryd.func21 rfl rfl a w, spoil_none21, spoil_walk21⟩
theorem pok_21 {R : Type} : ShOk (R := R) Tryd.prog glob raw 21 sh21 := by
 intro av es K r h
 unfold sh21 at h
 split at h
 ·exact ⟨_, _, by rw [show npF raw 21 _ = 1 from rfl]; exact spoil_own spw21 _, h⟩
 ·exact ⟨_, _, by rw [show npF raw 21 _ = 1 from rfl]; exact spoil_twn spw21 _ _, h⟩
 ·exact no_some h
end
end Go.Ab.T
