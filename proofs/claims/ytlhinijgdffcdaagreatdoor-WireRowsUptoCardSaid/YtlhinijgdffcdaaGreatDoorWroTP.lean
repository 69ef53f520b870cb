/- errors.As, by its own text: what a call comes to. -/
import Derived.Test.YtlhinijgdffcdaaGreatDoorWroTA
import Derived.Test.YtlhinijgdffcdaaGreatDoorPrimX
import Derived.WalkKit
import Derived.LaidEql
import Derived.Stop.Asserts
import Derived.RowKitTokens
import Derived.Lib.Walk
namespace Go.Ab.T
open Go Go.Ab Go.Proofs Go.RowKit Go.Lib Go.Extern Go.Stop
set_option linter.unusedVariables false
set_option linter.unusedSimpArgs false
theorem rlm (z : Sem Value) (f : TypeId → Addr → Nat → Nat → Sem Value) (v : Value) :
  ReflectliteValue.method z f #[v] = (do match ← ReflectliteValue.parts v with | none => z | some (t, a, fl) => f t a fl (fl % 32)) := rfl
theorem rls (v x : Value) : ReflectliteValue.set #[v, x] = (do
  let (some (dst, a, fl), some (src, b, _)) := (← ReflectliteValue.parts v, ← ReflectliteValue.parts x)
   | unsupported (.noEntry "extern/(internal/reflectlite.Value).Set.zeroValue")
  if fl / ReflectliteValue.flagAddr % 2 == 0 then unsupported (.noEntry "extern/(internal/reflectlite.Value).Set.unaddressable")
  let val ← loadVar src b
  if ← Rtype.directlyAssignable dst src then storeVar dst a val
  else if ← Rtype.implements dst src then
   if (← Rtype.kind src) == 20 then
    match val with
    | .nilIface => unsupported (.noEntry "extern/reflectlite: a nil value of one interface type handed on as a value of another")
    | _ => storeVar dst a val
   else storeVar dst a (.iface src val)
  else panicString ("reflectlite.Set: value of type " ++ (← Rtype.spelt src) ++ " is not assignable to type " ++ (← Rtype.spelt dst))
  pure (.tuple #[])) := rfl
theorem typeOf66 (v : Value) (w : World) : (ReflectliteType.typeOf #[.iface 66 v]).run Tryz.prog w = .ok (.iface 105 (.agg #[.pointer (some ⟨1, 66, none⟩)])) w := by kernel_rfl
theorem noAs66 (v : Value) (xT : TypeId) (w : World) : (Instr.typeAssert (.iface 66 v) xT 110 true).run Tryz.prog w = .ok (.tuple #[.nilIface, .bool false]) w := run_typeAssert_lacksB Tryz.underlying110 (by kernel_rfl) (by kernel_rfl) v xT w
theorem assignable66_66 (w : World) : (ReflectliteType.relation "AssignableTo" ReflectliteType.assignableTo #[.agg #[.pointer (some ⟨1, 66, none⟩)], .iface 105 (.agg #[.pointer (some ⟨1, 66, none⟩)])]).run Tryz.prog w = .ok (.bool true) w := by kernel_rfl
theorem typeOf80 (v : Value) (w : World) : (ReflectliteType.typeOf #[.iface 80 v]).run Tryz.prog w = .ok (.iface 105 (.agg #[.pointer (some ⟨1, 80, none⟩)])) w := by kernel_rfl
theorem noAs80 (v : Value) (xT : TypeId) (w : World) : (Instr.typeAssert (.iface 80 v) xT 110 true).run Tryz.prog w = .ok (.tuple #[.nilIface, .bool false]) w := run_typeAssert_lacksB Tryz.underlying110 (by kernel_rfl) (by kernel_rfl) v xT w
theorem hasUw80 (v : Value) (xT : TypeId) (w : World) : (Instr.typeAssert (.iface 80 v) xT 113 true).run Tryz.prog w = .ok (.tuple #[.iface 80 v, .bool true]) w := run_typeAssert_hasB Tryz.underlying113 (by kernel_rfl) v xT w
theorem mUw80 (b : Nat) (w : World) : (Go.method 294 80 (.pointer (some ⟨b, 0, none⟩)) "Unwrap").run Tryz.prog w = .ok (107, .pointer (some ⟨b, 0, none⟩)) w := by kernel_rfl
theorem assignable80_66 (w : World) : (ReflectliteType.relation "AssignableTo" ReflectliteType.assignableTo #[.agg #[.pointer (some ⟨1, 80, none⟩)], .iface 105 (.agg #[.pointer (some ⟨1, 66, none⟩)])]).run Tryz.prog w = .ok (.bool false) w := by kernel_rfl
theorem mAsg (h : Value) (w : World) : (Go.method 294 105 (.agg #[h]) "AssignableTo").run Tryz.prog w = .ok (112, .agg #[h]) w := by kernel_rfl
theorem mKind (h : Value) (w : World) : (Go.method 294 105 (.agg #[h]) "Kind").run Tryz.prog w = .ok (102, h) w := by kernel_rfl
theorem mElem (h : Value) (w : World) : (Go.method 294 105 (.agg #[h]) "Elem").run Tryz.prog w = .ok (114, .agg #[h]) w := by kernel_rfl
theorem mImpl (h : Value) (w : World) : (Go.method 294 105 (.agg #[h]) "Implements").run Tryz.prog w = .ok (115, .agg #[h]) w := by kernel_rfl
theorem valueOf68 (t : Addr) (w : World) : (ReflectliteValue.unpack (.iface 68 (.pointer (some t)))).run Tryz.prog w = .ok (.agg #[.pointer (some ⟨1, 68, none⟩), .pointer (some ⟨w.heap.size, 0, none⟩), .int .u64 150]) (w.alloc (.cells #[.pointer (some t)] 68)) := by kernel_rfl
theorem type68 (a : Addr) (w : World) : (ReflectliteValue.methodAny (ReflectliteValue.valueError "reflectlite.Value.Type" 0) (fun t _ _ _ => ReflectliteType.toType t) #[.agg #[.pointer (some ⟨1, 68, none⟩), .pointer (some a), .int .u64 150]]).run Tryz.prog w = .ok (.iface 105 (.agg #[.pointer (some ⟨1, 68, none⟩)])) w := by kernel_rfl
theorem kind68 (w : World) : ((ReflectliteType.abiMethod fun t => (fun a : Nat => Value.int IntKind.u8 (a : Int)) <$> Rtype.kind t) #[.pointer (some ⟨1, 68, none⟩)]).run Tryz.prog w = .ok (.int .u8 22) w := by kernel_rfl
theorem kind66 (w : World) : ((ReflectliteType.abiMethod fun t => (fun a : Nat => Value.int IntKind.u8 (a : Int)) <$> Rtype.kind t) #[.pointer (some ⟨1, 66, none⟩)]).run Tryz.prog w = .ok (.int .u8 22) w := by kernel_rfl
theorem parts68 (a : Addr) (w : World) : (ReflectliteValue.parts (.agg #[.pointer (some ⟨1, 68, none⟩), .pointer (some a), .int .u64 150])).run Tryz.prog w = .ok (some (68, a, 150)) w := by kernel_rfl
theorem isNil68 (a p : Addr) (W : World) (ha : W.cell? a = some (.pointer (some p))) :
  (ReflectliteValue.method (ReflectliteValue.valueError "reflectlite.Value.IsNil" 0) ReflectliteValue.isNil #[.agg #[.pointer (some ⟨1, 68, none⟩), .pointer (some a), .int .u64 150]]).run Tryz.prog W = .ok (.bool false) W := by
 rw [rlm]
 simp only [Sem.run_bind, parts68, Result.andThen]
 simp [ReflectliteValue.isNil, loadVar, isAgg, underlying, Tryz.underlying68, ha, Result.andThen]
theorem elem68 (w : World) : (ReflectliteType.method ReflectliteType.elem #[.agg #[.pointer (some ⟨1, 68, none⟩)]]).run Tryz.prog w = .ok (.iface 105 (.agg #[.pointer (some ⟨1, 66, none⟩)])) w := by kernel_rfl
theorem implements66 (w : World) : (ReflectliteType.relation "Implements" ReflectliteType.implements_ #[.agg #[.pointer (some ⟨1, 66, none⟩)], .iface 105 (.agg #[.pointer (some ⟨1, 48, none⟩)])]).run Tryz.prog w = .ok (.bool true) w := by kernel_rfl
theorem valueOf66 (e : Addr) (w : World) : (ReflectliteValue.unpack (.iface 66 (.pointer (some e)))).run Tryz.prog w = .ok (.agg #[.pointer (some ⟨1, 66, none⟩), .pointer (some ⟨w.heap.size, 0, none⟩), .int .u64 150]) (w.alloc (.cells #[.pointer (some e)] 66)) := by kernel_rfl
theorem elemOf68 (w : World) : (Rtype.elem? 68).run Tryz.prog w = .ok (some 66) w := by kernel_rfl
theorem mk66 (p : Addr) (w : World) : (ReflectliteValue.mk 66 p ReflectliteValue.flagAddr).run Tryz.prog w = .ok (.agg #[.pointer (some ⟨1, 66, none⟩), .pointer (some p), .int .u64 406]) w := by kernel_rfl
theorem elemV68 (a p : Addr) (W : World) (ha : W.cell? a = some (.pointer (some p))) :
  (ReflectliteValue.method (ReflectliteValue.valueError "reflectlite.Value.Elem" 0) ReflectliteValue.elem #[.agg #[.pointer (some ⟨1, 68, none⟩), .pointer (some a), .int .u64 150]]).run Tryz.prog W
   = .ok (.agg #[.pointer (some ⟨1, 66, none⟩), .pointer (some p), .int .u64 406]) W := by
 rw [rlm]
 simp only [Sem.run_bind, parts68, Result.andThen]
 simp [ReflectliteValue.elem, loadVar, isAgg, underlying, Tryz.underlying68, ha, Result.andThen, elemOf68, mk66]
theorem parts66a (a : Addr) (w : World) : (ReflectliteValue.parts (.agg #[.pointer (some ⟨1, 66, none⟩), .pointer (some a), .int .u64 406])).run Tryz.prog w = .ok (some (66, a, 406)) w := by kernel_rfl
theorem parts66 (a : Addr) (w : World) : (ReflectliteValue.parts (.agg #[.pointer (some ⟨1, 66, none⟩), .pointer (some a), .int .u64 150])).run Tryz.prog w = .ok (some (66, a, 150)) w := by kernel_rfl
theorem direct66 (w : World) : (Rtype.directlyAssignable 66 66).run Tryz.prog w = .ok true w := by kernel_rfl
theorem size66 (w : World) : (sizeOf 66).run Tryz.prog w = .ok 1 w := by kernel_rfl
theorem set66 (ta b e : Addr) (old : Value) (W : World) (hb : W.cell? b = some (.pointer (some e))) (ht : W.cell? ta = some old) (hf : W.frozen? ta = false) :
  (ReflectliteValue.set #[.agg #[.pointer (some ⟨1, 66, none⟩), .pointer (some ta), .int .u64 406], .agg #[.pointer (some ⟨1, 66, none⟩), .pointer (some b), .int .u64 150]]).run Tryz.prog W
   = .ok (.tuple #[]) (W.setCell ta (.pointer (some e))) := by
 rw [rls]
 simp only [Sem.run_bind, parts66a, parts66, Result.andThen]
 simp [ReflectliteValue.flagAddr, loadVar, isAgg, underlying, Tryz.underlying66, hb, Result.andThen, direct66, storeVar, Value.cells, storeCells, Addr.add]
 rw [run_store Tryz.prog W ta _ _ (by rfl)]
 simp [ht, hf]
set_option maxHeartbeats 8000000 in
set_option maxRecDepth 100000 in
theorem as_walk66 {ok : Nat → Prop} {w0 w : World} {tb vb : Nat} {old : Value} (hE : Ext w0 w) (ht0 : w.cell? ⟨tb, 0, none⟩ = some old) (hf0 : w.frozen? ⟨tb, 0, none⟩ = false) (hv0 : w.cell? ⟨vb, 0, none⟩ = some (.pointer (some ⟨tb, 0, none⟩)))
  (x : Err) (v : Value) (hx : RtE w0 ok x [v]) (hfit : Err.fit [(66, 1)] [(80, 0, 0)] x = true) (hnil : x.isNil = false)
  (Φ : Ending → World → Prop) (H0 : Err.find 66 x = none → Φ (.returned (.bool false)) (w.alloc (.cells #[.pointer (some ⟨1, 68, none⟩), .pointer (some ⟨vb, 0, none⟩), .int .u64 150] 86)))
  (H1 : ∀ y b, Err.find 66 x = some y → RtE w0 ok y [.iface 66 (.pointer (some ⟨b, 0, none⟩))] → Err.fit [(66, 1)] [(80, 0, 0)] y = true → (∀ z, v = .iface 66 z → z = .pointer (some ⟨b, 0, none⟩)) →
   Φ (.returned (.bool true)) (((w.setCell ⟨tb, 0, none⟩ (.pointer (some ⟨b, 0, none⟩))).alloc (.cells #[.pointer (some ⟨1, 68, none⟩), .pointer (some ⟨vb, 0, none⟩), .int .u64 150] 86)).alloc (.cells #[.pointer (some ⟨b, 0, none⟩)] 66))) :
  Calls Tryz.prog 38 #[v, .iface 68 (.pointer (some ⟨tb, 0, none⟩)), .agg #[.pointer (some ⟨1, 68, none⟩), .pointer (some ⟨vb, 0, none⟩), .int .u64 150], .iface 105 (.agg #[.pointer (some ⟨1, 66, none⟩)])] w Φ := by
 obtain ⟨A0, A1⟩ : Hid (Err.find 66 x = none → Φ (.returned (.bool false)) (w.alloc (.cells #[.pointer (some ⟨1, 68, none⟩), .pointer (some ⟨vb, 0, none⟩), .int .u64 150] 86))) ∧ Hid (∀ y b, Err.find 66 x = some y → RtE w0 ok y [.iface 66 (.pointer (some ⟨b, 0, none⟩))] → Err.fit [(66, 1)] [(80, 0, 0)] y = true → (∀ z, v = .iface 66 z → z = .pointer (some ⟨b, 0, none⟩)) →
   Φ (.returned (.bool true)) (((w.setCell ⟨tb, 0, none⟩ (.pointer (some ⟨b, 0, none⟩))).alloc (.cells #[.pointer (some ⟨1, 68, none⟩), .pointer (some ⟨vb, 0, none⟩), .int .u64 150] 86)).alloc (.cells #[.pointer (some ⟨b, 0, none⟩)] 66))) := ⟨⟨H0⟩, ⟨H1⟩⟩
 clear H0 H1
 have hTO := @run_callFunc_extern Tryz.prog 42 _ ReflectliteType.typeOf Tryz.func42 (by kernel_rfl) (by kernel_rfl) (by kernel_rfl) (by kernel_rfl)
 have hRA := @run_callFunc_extern Tryz.prog 112 _ (ReflectliteType.relation "AssignableTo" ReflectliteType.assignableTo) Tryz.func112 (by kernel_rfl) (by kernel_rfl) (by kernel_rfl) (by kernel_rfl)
 have hVO := @run_callFunc_extern Tryz.prog 35 _ (fun args => ReflectliteValue.unpack (args.getD 0 (.tuple #[]))) Tryz.func35 (by kernel_rfl) (by kernel_rfl) (by kernel_rfl) (by kernel_rfl)
 have hVE := @run_callFunc_extern Tryz.prog 43 _ (ReflectliteValue.method (ReflectliteValue.valueError "reflectlite.Value.Elem" 0) ReflectliteValue.elem) Tryz.func43 (by kernel_rfl) (by kernel_rfl) (by kernel_rfl) (by kernel_rfl)
 have hVS := @run_callFunc_extern Tryz.prog 44 _ ReflectliteValue.set Tryz.func44 (by kernel_rfl) (by kernel_rfl) (by kernel_rfl) (by kernel_rfl)
 have t66 := typeOf66
 have a66 := assignable66_66
 have n66 := noAs66
 have t80 := typeOf80
 have a80 := assignable80_66
 have n80 := noAs80
 have u80 := hasUw80
 have m80 := mUw80
 have mA := mAsg
 go_enter Tryz.func38, Tryz.ntmps38
 go_wp2
 refine LoopWp.loop ?_
 refine (?_ : ∀ (x' : Err) (v' c4 c5 c7 c8 c9 c10 c11 c12 c13 c14 c15 c16 c17 c18 c19 c20 c21 c22 c23 c24 c25 c26 c27 c28 c29 c30 c31 c32 c33 c34 c35 c36 c37 c38 c39 c40 c41 c42 c43 c44 c45 c46 c47 c48 c49 c50 c51 c52 c53 c54 c55 c56 c57 c58 c59 c60 c61 : Value), RtE w0 ok x' [v'] → Err.fit [(66, 1)] [(80, 0, 0)] x' = true → x'.isNil = false → Err.find 66 x' = Err.find 66 x → (∀ z, v = .iface 66 z → v' = .iface 66 z) → LoopWp _ _ _ ⟨#[v', .iface 68 (.pointer (some ⟨tb, 0, none⟩)), .agg #[.pointer (some ⟨1, 68, none⟩), .pointer (some ⟨vb, 0, none⟩), .int .u64 150], .iface 105 (.agg #[.pointer (some ⟨1, 66, none⟩)]), c4, c5, .pointer (some ⟨w.heap.size, 0, none⟩), c7, c8, c9, c10, c11, c12, c13, c14, c15, c16, c17, c18, c19, c20, c21, c22, c23, c24, c25, c26, c27, c28, c29, c30, c31, c32, c33, c34, c35, c36, c37, c38, c39, c40, c41, c42, c43, c44, c45, c46, c47, c48, c49, c50, c51, c52, c53, c54, c55, c56, c57, c58, c59, c60, c61], []⟩ (w.alloc (.cells #[.pointer (some ⟨1, 68, none⟩), .pointer (some ⟨vb, 0, none⟩), .int .u64 150] 86))) x v _ _ _ _ _ _ _ _ _ _ _ _ _ _ _ _ _ _ _ _ _ _ _ _ _ _ _ _ _ _ _ _ _ _ _ _ _ _ _ _ _ _ _ _ _ _ _ _ _ _ _ _ _ _ _ _ _ hx hfit hnil rfl (fun _ h => h)
 intro x'
 have hvlt : vb < w.heap.size := cell_lt hv0
 have htlt : tb < w.heap.size := cell_lt ht0
 have el := elemV68 ⟨vb, 0, none⟩ ⟨tb, 0, none⟩ (w.alloc (.cells #[.pointer (some ⟨1, 68, none⟩), .pointer (some ⟨vb, 0, none⟩), .int .u64 150] 86)) (by rw [World.cell?_alloc_lt _ _ ⟨vb, 0, none⟩ hvlt]; exact hv0)
 have vo := valueOf66
 have st := fun e : Nat => set66 ⟨tb, 0, none⟩ ⟨w.heap.size + 1, 0, none⟩ ⟨e, 0, none⟩ old ((w.alloc (.cells #[.pointer (some ⟨1, 68, none⟩), .pointer (some ⟨vb, 0, none⟩), .int .u64 150] 86)).alloc (.cells #[.pointer (some ⟨e, 0, none⟩)] 66))
  (by rw [World.cell?_alloc_at _ _ _ _ (by simp)]; rfl)
  (by rw [World.cell?_alloc_lt _ _ ⟨tb, 0, none⟩ (by simp; omega), World.cell?_alloc_lt _ _ ⟨tb, 0, none⟩ htlt]; exact ht0)
  (by rw [World.frozen?_alloc_old _ _ ⟨tb, 0, none⟩ (by simp; omega), World.frozen?_alloc_old _ _ ⟨tb, 0, none⟩ (Nat.ne_of_lt htlt)]; exact hf0)
 induction x' with
 | nil => intro v' c4 c5 c7 c8 c9 c10 c11 c12 c13 c14 c15 c16 c17 c18 c19 c20 c21 c22 c23 c24 c25 c26 c27 c28 c29 c30 c31 c32 c33 c34 c35 c36 c37 c38 c39 c40 c41 c42 c43 c44 c45 c46 c47 c48 c49 c50 c51 c52 c53 c54 c55 c56 c57 c58 c59 c60 c61 hx hfit hnil hfd hvv; simp [Err.isNil] at hnil
 | raw t z => intro v' c4 c5 c7 c8 c9 c10 c11 c12 c13 c14 c15 c16 c17 c18 c19 c20 c21 c22 c23 c24 c25 c26 c27 c28 c29 c30 c31 c32 c33 c34 c35 c36 c37 c38 c39 c40 c41 c42 c43 c44 c45 c46 c47 c48 c49 c50 c51 c52 c53 c54 c55 c56 c57 c58 c59 c60 c61 hx hfit hnil hfd hvv; simp [Err.fit] at hfit
 | leaf u xs =>
  intro v' c4 c5 c7 c8 c9 c10 c11 c12 c13 c14 c15 c16 c17 c18 c19 c20 c21 c22 c23 c24 c25 c26 c27 c28 c29 c30 c31 c32 c33 c34 c35 c36 c37 c38 c39 c40 c41 c42 c43 c44 c45 c46 c47 c48 c49 c50 c51 c52 c53 c54 c55 c56 c57 c58 c59 c60 c61 hx hfit hnil hfd hvv
  obtain ⟨b, hv, hb1, hb2, hb3, hb4⟩ := hx
  simp only [List.cons.injEq, and_true] at hv
  subst hv
  have hm := fit_leaf hfit
  simp only [List.mem_cons, List.not_mem_nil, or_false, Prod.mk.injEq] at hm
  ·obtain ⟨rfl, hp1⟩ := hm
   refine LoopWp.step ?_
   go_wp2
   exact A1.out (.leaf _ xs) b (by rw [← hfd]; simp [Err.find]) (⟨b, rfl, hb1, hb2, hb3, hb4⟩) hfit (fun z hz => by have := hvv z hz; simpa using this.symm)
 | wrap u pre y post ih =>
  intro v' c4 c5 c7 c8 c9 c10 c11 c12 c13 c14 c15 c16 c17 c18 c19 c20 c21 c22 c23 c24 c25 c26 c27 c28 c29 c30 c31 c32 c33 c34 c35 c36 c37 c38 c39 c40 c41 c42 c43 c44 c45 c46 c47 c48 c49 c50 c51 c52 c53 c54 c55 c56 c57 c58 c59 c60 c61 hx hfit hnil hfd hvv
  have hx0 := hx
  obtain ⟨b, c, hv, hb1, hb2, hb3, hb4, hy⟩ := hx
  simp only [List.cons.injEq, and_true] at hv
  subst hv
  obtain ⟨hm, hfy⟩ := fit_wrap hfit
  simp only [List.mem_cons, List.not_mem_nil, or_false, Prod.mk.injEq] at hm
  ·obtain ⟨rfl, hp1, hp2⟩ := hm
   have hc : (w.alloc (.cells #[.pointer (some ⟨1, 68, none⟩), .pointer (some ⟨vb, 0, none⟩), .int .u64 150] 86)).cell? ⟨b, 0, none⟩ = some c := by
    rw [World.cell?_alloc_lt _ _ ⟨b, 0, none⟩ (Nat.lt_of_lt_of_le hb2 hE.size)]
    have := hE.cell (hb4 pre.length c (by simp [intsV]))
    rw [hp1] at this
    simpa using this
   rcases rte_form hy with ⟨rfl, rfl⟩ | ⟨hny, t, z, rfl⟩
   ·have e0 := eql_nil_nil Tryz.underlying48 (P := Tryz.prog)
    refine LoopWp.step ?_
    go_wp2
    exact A0.out (by rw [← hfd]; simp [Err.find])
   ·have e0 := eql_iface_nil Tryz.underlying48 t z (P := Tryz.prog)
    refine LoopWp.step ?_
    go_wp2
    exact ih _ _ _ _ _ _ _ _ _ _ _ _ _ _ _ _ _ _ _ _ _ _ _ _ _ _ _ _ _ _ _ _ _ _ _ _ _ _ _ _ _ _ _ _ _ _ _ _ _ _ _ _ _ _ _ _ _ _ hy hfy hny (by rw [← hfd]; simp [Err.find]) (fun z hz => by have := hvv z hz; simp at this)
def AsHit66 (w : World) (ok : Nat → Prop) (x : Err) (v : Value) (tb : Nat) (e : Ending) (w' : World) : Prop :=
 ∃ y b, Err.find 66 x = some y ∧ e = .returned (.bool true) ∧ RtE w ok y [.iface 66 (.pointer (some ⟨b, 0, none⟩))] ∧ Err.fit [(66, 1)] [(80, 0, 0)] y = true ∧ (∀ z, v = .iface 66 z → z = .pointer (some ⟨b, 0, none⟩)) ∧ Ext (w.setCell ⟨tb, 0, none⟩ (.pointer (some ⟨b, 0, none⟩))) w'
set_option maxHeartbeats 8000000 in
set_option maxRecDepth 100000 in
theorem as_call66 {ok : Nat → Prop} {w : World} {tb : Nat} {oldv : Value} (hg : w.cell? ⟨0, 0, none⟩ = some (.iface 105 (.agg #[.pointer (some ⟨1, 48, none⟩)]))) (ht0 : w.cell? ⟨tb, 0, none⟩ = some oldv) (hf0 : w.frozen? ⟨tb, 0, none⟩ = false)
  (x : Err) (v : Value) (hx : RtE w ok x [v]) (hfit : Err.fit [(66, 1)] [(80, 0, 0)] x = true)
  (Φ : Ending → World → Prop) (H0 : ∀ w', Err.find 66 x = none → Ext w w' → Φ (.returned (.bool false)) w')
  (H1 : ∀ y b w', Err.find 66 x = some y → RtE w ok y [.iface 66 (.pointer (some ⟨b, 0, none⟩))] → Err.fit [(66, 1)] [(80, 0, 0)] y = true → (∀ z, v = .iface 66 z → z = .pointer (some ⟨b, 0, none⟩)) →
   Ext (w.setCell ⟨tb, 0, none⟩ (.pointer (some ⟨b, 0, none⟩))) w' → Φ (.returned (.bool true)) w') :
  Calls Tryz.prog 26 #[v, .iface 68 (.pointer (some ⟨tb, 0, none⟩))] w Φ := by
 obtain ⟨A0, A1⟩ : Hid (∀ w', Err.find 66 x = none → Ext w w' → Φ (.returned (.bool false)) w') ∧ Hid (∀ y b w', Err.find 66 x = some y → RtE w ok y [.iface 66 (.pointer (some ⟨b, 0, none⟩))] → Err.fit [(66, 1)] [(80, 0, 0)] y = true → (∀ z, v = .iface 66 z → z = .pointer (some ⟨b, 0, none⟩)) →
   Ext (w.setCell ⟨tb, 0, none⟩ (.pointer (some ⟨b, 0, none⟩))) w' → Φ (.returned (.bool true)) w') := ⟨⟨H0⟩, ⟨H1⟩⟩
 clear H0 H1
 have hVO := @run_callFunc_extern Tryz.prog 35 _ (fun args => ReflectliteValue.unpack (args.getD 0 (.tuple #[]))) Tryz.func35 (by kernel_rfl) (by kernel_rfl) (by kernel_rfl) (by kernel_rfl)
 have hVT := @run_callFunc_extern Tryz.prog 36 _ (ReflectliteValue.methodAny (ReflectliteValue.valueError "reflectlite.Value.Type" 0) (fun t _ _ _ => ReflectliteType.toType t)) Tryz.func36 (by kernel_rfl) (by kernel_rfl) (by kernel_rfl) (by kernel_rfl)
 have hVN := @run_callFunc_extern Tryz.prog 37 _ (ReflectliteValue.method (ReflectliteValue.valueError "reflectlite.Value.IsNil" 0) ReflectliteValue.isNil) Tryz.func37 (by kernel_rfl) (by kernel_rfl) (by kernel_rfl) (by kernel_rfl)
 have hKD := @run_callFunc_extern Tryz.prog 102 _ (ReflectliteType.abiMethod fun t => do pure (.int .u8 (← Rtype.kind t))) Tryz.func102 (by kernel_rfl) (by kernel_rfl) (by kernel_rfl) (by kernel_rfl)
 have hRE := @run_callFunc_extern Tryz.prog 114 _ (ReflectliteType.method ReflectliteType.elem) Tryz.func114 (by kernel_rfl) (by kernel_rfl) (by kernel_rfl) (by kernel_rfl)
 have hRI := @run_callFunc_extern Tryz.prog 115 _ (ReflectliteType.relation "Implements" ReflectliteType.implements_) Tryz.func115 (by kernel_rfl) (by kernel_rfl) (by kernel_rfl) (by kernel_rfl)
 have f1 := valueOf68
 have f2 := type68
 have mK := mKind
 have mE := mElem
 have mI := mImpl
 have k1 := kind68
 have k2 := kind66
 have e1 := elem68
 have i1 := implements66
 have htl : tb < w.heap.size := cell_lt ht0
 have hgl : 0 < w.heap.size := cell_lt hg
 have n1 := isNil68 ⟨w.heap.size, 0, none⟩ ⟨tb, 0, none⟩ ((w.alloc (.cells #[.pointer (some ⟨tb, 0, none⟩)] 68)).alloc (.cells #[.pointer (some ⟨1, 68, none⟩), .pointer (some ⟨w.heap.size, 0, none⟩), .int .u64 150] 86)) (by simp)
 have hg2 : ((w.alloc (.cells #[.pointer (some ⟨tb, 0, none⟩)] 68)).alloc (.cells #[.pointer (some ⟨1, 68, none⟩), .pointer (some ⟨w.heap.size, 0, none⟩), .int .u64 150] 86)).cell? ⟨0, 0, none⟩ = some (.iface 105 (.agg #[.pointer (some ⟨1, 48, none⟩)])) := by
  rw [World.cell?_alloc_lt _ _ ⟨0, 0, none⟩ (by simp), World.cell?_alloc_lt _ _ ⟨0, 0, none⟩ hgl]; exact hg
 have hE : Ext w ((w.alloc (.cells #[.pointer (some ⟨tb, 0, none⟩)] 68)).alloc (.cells #[.pointer (some ⟨1, 68, none⟩), .pointer (some ⟨w.heap.size, 0, none⟩), .int .u64 150] 86)) := ((Ext.refl w).alloc _).alloc _
 rcases rte_form hx with ⟨rfl, rfl⟩ | ⟨hn, t, z, rfl⟩
 ·have e0 := eql_nil_nil Tryz.underlying48 (P := Tryz.prog)
  go_enter Tryz.func26, Tryz.ntmps26
  go_wp2
  exact A0.out _ rfl (Ext.refl w)
 ·have e0 := eql_iface_nil Tryz.underlying48 t z (P := Tryz.prog)
  have hw := as_walk66 (ok := ok) (w0 := w) (w := (w.alloc (.cells #[.pointer (some ⟨tb, 0, none⟩)] 68)).alloc (.cells #[.pointer (some ⟨1, 68, none⟩), .pointer (some ⟨w.heap.size, 0, none⟩), .int .u64 150] 86)) (tb := tb) (vb := w.heap.size) (old := oldv) hE
   (by rw [World.cell?_alloc_lt _ _ ⟨tb, 0, none⟩ (by simp; omega), World.cell?_alloc_lt _ _ ⟨tb, 0, none⟩ htl]; exact ht0)
   (by rw [World.frozen?_alloc_old _ _ ⟨tb, 0, none⟩ (by simp; omega), World.frozen?_alloc_old _ _ ⟨tb, 0, none⟩ (Nat.ne_of_lt htl)]; exact hf0)
   (by rw [World.cell?_alloc_lt _ _ ⟨w.heap.size, 0, none⟩ (by simp), World.cell?_alloc_at _ _ _ _ (by simp)]; rfl) x _ hx hfit hn (fun e w' => (Err.find 66 x = none ∧ e = .returned (.bool false) ∧ Ext w w') ∨ AsHit66 w ok x (.iface t z) tb e w')
   (fun h => .inl ⟨h, rfl, hE.alloc _⟩) (fun y b h1 h2 h3 h4 => .inr ⟨y, b, h1, rfl, h2, h3, h4, ((hE.set htl _).alloc _).alloc _⟩)
  go_enter Tryz.func26, Tryz.ntmps26
  go_wp2_with (go_at_call 38; refine hw.mono ?_; rintro e w' (⟨h1, rfl, h2⟩ | ⟨y, b, h1, rfl, h2, h3, h4, h5⟩))
  ·skip
   exact A0.out _ h1 h2
  ·skip
   exact A1.out y b _ h1 h2 h3 h4 h5
def den66 (y : Err) : (Int × Unit) := ((Err.num 0 y), ())
theorem den_rt66 {x : Err} (hfit : Err.fit [(66, 1)] [(80, 0, 0)] x = true) (ok : Nat → Prop) (w : World) (y : Err) (b : Nat) (hy : Err.find 66 x = some y) (hyr : RtE w ok y [.iface 66 (.pointer (some ⟨b, 0, none⟩))]) :
  ok b ∧ b < w.heap.size ∧ ∃ ecs, Lies w b 0 ecs ∧ Rt w (fun _ _ => True) (.pair (.int .i64) .unit) ecs (den66 y) := by
  rcases find_type hy with ⟨xs, rfl⟩ | ⟨pre, z, post, rfl⟩
  rotate_left
  ·have hm := (fit_wrap (find_fit hfit hy)).1
   simp at hm
  have hm := fit_leaf (find_fit hfit hy)
  have hp1 : xs.length = 1 := by simp at hm; first | exact hm | omega
  obtain ⟨b', hv, h1, h2, h3, h4⟩ := hyr
  simp only [List.cons.injEq, Value.iface.injEq, Value.pointer.injEq, Option.some.injEq, Addr.mk.injEq, and_true, true_and] at hv
  subst hv
  match xs, hp1, h3, h4 with
  | [n0], _, h3, h4 =>
   have hI0 : inK .i64 n0 = true := h3 n0 (by simp)
   exact ⟨h1, h2, _, h4, ⟨[_], [], rfl, ⟨rfl, hI0⟩, rfl⟩⟩
theorem glob0 : glob 0 = some (.err (.raw 105 (.agg #[.pointer (some ⟨1, 48, none⟩)]))) := rfl
theorem pok_26 {R : Type} : ShOk (R := R) Tryz.prog glob raw 26 sh26 := by
 intro av es K r h
 unfold sh26 at h
 split at h
 ·rename_i x
  obtain ⟨hf, h⟩ := gd_some h
  have H := as_ok (raw := raw) (f := 26) (x := x) (ty := (.pair (.int .i64) .unit)) (k := 66) (tpp := 68) (enter_of Tryz.func26 rfl rfl) glob0
   (fun ok w tb oldv hg ht hf0 v hx => as_call66 hg ht hf0 x v hx hf _ (fun w' h1 h2 => .inl ⟨h1, rfl, h2⟩) (fun y b w' h1 h2 h3 h4 h5 => .inr ⟨y, b, h1, rfl, h2, h5⟩)) (den := den66) (den_rt66 hf) rfl
  unfold optK at h
  split at h
  ·rename_i y hy; exact ⟨_, _, H.1 y hy, h⟩
  ·rename_i hy; exact ⟨_, _, H.2 hy, h⟩
 ·exact no_some h
end Go.Ab.T
