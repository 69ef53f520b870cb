/- The abstract interpreter: typed pure values for slots, boxes and owned slices. -/
import Derived.Calls
import Derived.Orders
namespace Go.Ab
open Go
set_option linter.unusedVariables false
inductive Rose (α : Type) where
 | node (x : α) (ks : List (Rose α))
def Rose.lab {α : Type} : Rose α → α
 | .node x _ => x
def Rose.kids {α : Type} : Rose α → List (Rose α)
 | .node _ ks => ks
inductive Err where
 | nil | leaf (t : Nat) (xs : List Int) | wrap (t : Nat) (pre : List Int) (inner : Err) (post : List Int) | raw (t : Nat) (v : Value)
def Err.isNil : Err → Bool
 | .nil => true
 | _ => false
inductive Ty where
 | int (k : IntKind) | bool | str | slice (e : Ty) | arr (n : Nat) (e : Ty) | unit | pair (a b : Ty) | rose (a : Ty) | err | nw (k : IntKind)
 deriving DecidableEq
@[reducible] def Ty.den : Ty → Type
 | .int _ => Int
 | .bool => Bool
 | .str => List Int
 | .slice e => List e.den
 | .arr _ e => List e.den
 | .unit => Unit
 | .pair a b => a.den × b.den
 | .rose a => Rose a.den
 | .err => Err
 | .nw _ => Int
def Ty.size : Ty → Nat
 | .int _ | .bool | .str | .slice _ | .err | .nw _ => 1
 | .arr n e => n * e.size
 | .unit => 0
 | .pair a b => a.size + b.size
 | .rose a => a.size + 1
def Ty.zero : (t : Ty) → t.den
 | .int _ => (0 : Int)
 | .bool => false
 | .str => ([] : List Int)
 | .slice _ => []
 | .arr n e => List.replicate n e.zero
 | .unit => ()
 | .pair a b => (a.zero, b.zero)
 | .rose a => .node a.zero []
 | .err => .nil
 | .nw _ => (0 : Int)
inductive Step where
 | fld (i : Nat) | idx (i : Int)
inductive S where
 | int (k : IntKind) (n : Int) | bool (b : Bool) | str (s : List Int)
 | sl (e : Ty) (xs : List e.den) | nilsl
 | arr (n : Nat) (e : Ty) (xs : List e.den)
 | st (fs : List S)
 | own (e : Ty) (k : Nat)
 | twn (e : Ty) (k : Nat) (n : Int)
 | ptr (k : Nat) (p : List Step) | nilp | iref (t : Ty) (x : t.den) | gptr (g : Nat) (p : List Step)
 | fn (f : FuncId) (cap : List S) | nilfn
 | iface (t : TypeId) (v : S) | nili
 | mp (k : Nat) | nilmp
 | err (x : Err)
 | tup (fs : List S)
 | junk
inductive Ent where
 | box (s : S) (fz : Bool)
 | buf (e : Ty) (xs : List e.den) (fz : Bool)
 | map (kt vt : Ty) (m : List (kt.den × vt.den)) (fz : Bool)
def Ent.fz : Ent → Bool
 | .box _ f | .buf _ _ f | .map _ _ _ f => f
def Ent.freeze : Ent → Ent
 | .box s _ => .box s true
 | .buf e xs _ => .buf e xs true
 | .map kt vt m _ => .map kt vt m true
abbrev Tbl := Nat → Option Ent
def Tbl.set (t : Tbl) (k : Nat) (e : Option Ent) : Tbl := fun j => if j = k then e else t j
def Tbl.sets (t : Tbl) : List (Nat × Option Ent) → Tbl
 | [] => t
 | (k, e) :: r => Tbl.sets (t.set k e) r
structure St where
 sl : List S
 tb : Tbl
 ep : Nat
 np : Nat     -- so many keys (0, 1, ..) came with the call and keep their names
def z0 : Nat := 0
def z1 : Nat := z0
def z2 : Nat := z1
def z3 : Nat := z2
def z4 : Nat := z3
def z5 : Nat := z4
def z6 : Nat := z5
def z7 : Nat := z6
def z8 : Nat := z7
def z9 : Nat := z8
def z10 : Nat := z9
def z11 : Nat := z10
def z12 : Nat := z11
def z13 : Nat := z12
def z14 : Nat := z13
def z15 : Nat := z14
def z16 : Nat := z15
def z17 : Nat := z16
def z18 : Nat := z17
def z19 : Nat := z18
def z20 : Nat := z19
def z21 : Nat := z20
def z22 : Nat := z21
def z23 : Nat := z22
def z24 : Nat := z23
def z25 : Nat := z24
def z26 : Nat := z25
def z27 : Nat := z26
def z28 : Nat := z27
def z29 : Nat := z28
def z30 : Nat := z29
def z31 : Nat := z30
def z32 : Nat := z31
def z33 : Nat := z32
def z34 : Nat := z33
def z35 : Nat := z34
def z36 : Nat := z35
def z37 : Nat := z36
def z38 : Nat := z37
def z39 : Nat := z38
def z40 : Nat := z39
def z41 : Nat := z40
def z42 : Nat := z41
def z43 : Nat := z42
def z44 : Nat := z43
def z45 : Nat := z44
def z46 : Nat := z45
def z47 : Nat := z46
def z48 : Nat := z47
def z49 : Nat := z48
def z50 : Nat := z49
def z51 : Nat := z50
def z52 : Nat := z51
def z53 : Nat := z52
def z54 : Nat := z53
def z55 : Nat := z54
def z56 : Nat := z55
def z57 : Nat := z56
def z58 : Nat := z57
def z59 : Nat := z58
def z60 : Nat := z59
def z61 : Nat := z60
def z62 : Nat := z61
def z63 : Nat := z62
def z64 : Nat := z63
def z65 : Nat := z64
def z66 : Nat := z65
def z67 : Nat := z66
def z68 : Nat := z67
def z69 : Nat := z68
def z70 : Nat := z69
def z71 : Nat := z70
def z72 : Nat := z71
def z73 : Nat := z72
def z74 : Nat := z73
def z75 : Nat := z74
def z76 : Nat := z75
def z77 : Nat := z76
def z78 : Nat := z77
def z79 : Nat := z78
def z80 : Nat := z79
def z81 : Nat := z80
def z82 : Nat := z81
def z83 : Nat := z82
def z84 : Nat := z83
def z85 : Nat := z84
def z86 : Nat := z85
def z87 : Nat := z86
def z88 : Nat := z87
def z89 : Nat := z88
def z90 : Nat := z89
def z91 : Nat := z90
def z92 : Nat := z91
def z93 : Nat := z92
def z94 : Nat := z93
def z95 : Nat := z94
def z96 : Nat := z95
def z97 : Nat := z96
def z98 : Nat := z97
def z99 : Nat := z98
def z100 : Nat := z99
def z101 : Nat := z100
def z102 : Nat := z101
def z103 : Nat := z102
def z104 : Nat := z103
def z105 : Nat := z104
def z106 : Nat := z105
def z107 : Nat := z106
def z108 : Nat := z107
def z109 : Nat := z108
def z110 : Nat := z109
def z111 : Nat := z110
def z112 : Nat := z111
def z113 : Nat := z112
def z114 : Nat := z113
def z115 : Nat := z114
def z116 : Nat := z115
def z117 : Nat := z116
def z118 : Nat := z117
def z119 : Nat := z118
def z120 : Nat := z119
def z121 : Nat := z120
def z122 : Nat := z121
def z123 : Nat := z122
def z124 : Nat := z123
def z125 : Nat := z124
def z126 : Nat := z125
def z127 : Nat := z126
def z128 : Nat := z127
def z129 : Nat := z128
def z130 : Nat := z129
def z131 : Nat := z130
def z132 : Nat := z131
def z133 : Nat := z132
def z134 : Nat := z133
def z135 : Nat := z134
def z136 : Nat := z135
def z137 : Nat := z136
def z138 : Nat := z137
def z139 : Nat := z138
def z140 : Nat := z139
def z141 : Nat := z140
def z142 : Nat := z141
def z143 : Nat := z142
def z144 : Nat := z143
def z145 : Nat := z144
def z146 : Nat := z145
def z147 : Nat := z146
def z148 : Nat := z147
def z149 : Nat := z148
def z150 : Nat := z149
def z151 : Nat := z150
def z152 : Nat := z151
def z153 : Nat := z152
def z154 : Nat := z153
def z155 : Nat := z154
def z156 : Nat := z155
def z157 : Nat := z156
def z158 : Nat := z157
def z159 : Nat := z158
def z160 : Nat := z159
def iteH {α : Type} (b : Bool) (x y : α) : α :=
 let _ := z160
 match b with
 | true => x
 | false => y
def gd {α : Type} (b : Bool) (x : Option α) : Option α := bif b then x else none
def gds {α : Type} : List Bool → Option α → Option α
 | [], x => let _ := z150; x
 | b :: r, x => gd b (gds r x)
mutual
def lift : (t : Ty) → t.den → S
 | .int k, n => .int k n
 | .bool, b => .bool b
 | .str, s => .str s
 | .slice e, xs => .sl e xs
 | .arr n e, xs => .arr n e xs
 | .unit, _ => .st []
 | .pair a b, x => .st (lift a x.1 :: liftL b x.2)
 | .rose a, x => .st (liftL a x.lab ++ [.sl (.rose a) x.kids])
 | .err, x => .err x
 | .nw k, n => .int k n
def liftL : (t : Ty) → t.den → List S
 | .pair a b, x => lift a x.1 :: liftL b x.2
 | .unit, _ => []
 | .int k, n => [.int k n]
 | .bool, b => [.bool b]
 | .str, s => [.str s]
 | .slice e, xs => [.sl e xs]
 | .arr n e, xs => [.arr n e xs]
 | .rose a, x => liftL a x.lab ++ [.sl (.rose a) x.kids]
 | .err, x => [.err x]
 | .nw k, n => [.int k n]
end
def nwL : (e e' : Ty) → List e.den → Option (List e'.den)
 | .int k, .nw k', xs => if k = k' then some xs else none
 | _, _, _ => none
def unL : (e e' : Ty) → List e.den → Option (List e'.den)
 | .nw k, .int k', xs => if k = k' then some xs else none
 | _, _, _ => none
def Ty.isNw : Ty → Bool
 | .nw _ => true
 | _ => false
def Ty.nwT : Ty → Ty
 | .pair (.slice (.int k)) b => .pair (.slice (.nw k)) b.nwT
 | .pair a b => .pair a b.nwT
 | t => t
def castL {e e' : Ty} (h : e = e') (xs : List e.den) : List e'.den := h ▸ xs
mutual
def lower (tb : Tbl) : S → (t : Ty) → Option t.den
 | .int k n, .int k' => if k = k' then some n else none
 | .bool b, .bool => some b
 | .str s, .str => some s
 | .sl e xs, .slice e' => if h : e = e' then some (castL h xs) else none
 | .nilsl, .slice _ => some []
 | .own _ k, .slice e' =>
  match tb k with
  | some (.buf e xs _) => if h : e = e' then some (castL h xs) else nwL e e' xs
  | _ => none
 | .twn _ k n, .slice e' =>
  match tb k with
  | some (.buf e xs _) => if h : e = e' then some (castL h (xs.take n.toNat)) else none
  | _ => none
 | .arr n e xs, .arr n' e' => if n = n' then (if h : e = e' then some (castL h xs) else none) else none
 | .err x, .err => some x
 | .st fs, .rose a =>
  match lowerR tb fs a (.rose a) with
  | some r => some (.node r.1 r.2)
  | none => none
 | .st fs, t => lowerL tb fs t
 | _, _ => none
def lowerR (tb : Tbl) : List S → (t r : Ty) → Option (t.den × List r.den)
 | [f], .unit, r =>
  match lower tb f (.slice r) with
  | some ks => some ((), ks)
  | none => none
 | f :: q, .pair a b, r =>
  match lower tb f a, lowerR tb q b r with
  | some x, some y => some ((x, y.1), y.2)
  | _, _ => none
 | _, _, _ => none
def lowerL (tb : Tbl) : List S → (t : Ty) → Option t.den
 | [], .unit => some ()
 | f :: r, .pair a b =>
  match lower tb f a, lowerL tb r b with
  | some x, some y => some (x, y)
  | _, _ => none
 | _, _ => none
end
mutual
def ownKeys : S → List Nat
 | .own _ k | .twn _ k _ => [k]
 | .st fs | .tup fs => ownKeysL fs
 | .iface _ v => ownKeys v
 | _ => []
def ownKeysL : List S → List Nat
 | [] => []
 | f :: r => ownKeys f ++ ownKeysL r
end
mutual
def keysOf : S → List Nat
 | .own _ k | .twn _ k _ | .ptr k _ | .mp k => [k]
 | .st fs | .tup fs | .fn _ fs => keysOfL fs
 | .iface _ v => keysOf v
 | _ => []
def keysOfL : List S → List Nat
 | [] => []
 | f :: r => keysOf f ++ keysOfL r
end
def Ent.keys : Ent → List Nat
 | .box s _ => keysOf s
 | _ => []
def addAll (acc : List Nat) : List Nat → List Nat
 | [] => acc
 | k :: r => addAll (if acc.contains k then acc else acc ++ [k]) r
def entKeys (tb : Tbl) : List Nat → List Nat
 | [] => []
 | k :: r => (match tb k with | some e => e.keys | none => []) ++ entKeys tb r
def reach (tb : Tbl) : Nat → List Nat → List Nat
 | 0, ks => ks
 | n + 1, ks => reach tb n (addAll ks (entKeys tb ks))
mutual
def ren (ρ : Nat → Nat) : S → S
 | .own e k => .own e (ρ k)
 | .twn e k n => .twn e (ρ k) n
 | .ptr k p => .ptr (ρ k) p
 | .mp k => .mp (ρ k)
 | .st fs => .st (renL ρ fs)
 | .tup fs => .tup (renL ρ fs)
 | .fn f fs => .fn f (renL ρ fs)
 | .iface t v => .iface t (ren ρ v)
 | s => s
def renL (ρ : Nat → Nat) : List S → List S
 | [] => []
 | f :: r => ren ρ f :: renL ρ r
end
def Ent.ren (ρ : Nat → Nat) : Ent → Ent
 | .box s f => .box (Ab.ren ρ s) f
 | e => e
mutual
def S.size : S → Nat
 | .arr n e _ => n * e.size
 | .st fs => sizeL fs
 | _ => 1
def sizeL : List S → Nat
 | [] => 0
 | f :: r => f.size + sizeL r
end
def S.isAgg : S → Bool
 | .arr .. | .st _ => true
 | _ => false
def offL : List S → Nat → Nat
 | f :: r, i + 1 => f.size + offL r i
 | _, _ => 0
def Ty.offF : Ty → Nat → Nat
 | .pair a b, i + 1 => a.size + b.offF i
 | .rose a, i => a.offF i
 | _, _ => 0
def Ty.nfld : Ty → Nat
 | .pair _ b => b.nfld + 1
 | _ => 0
def Ty.chain : Ty → Bool
 | .pair _ b => b.chain
 | .unit => true
 | _ => false
def getA (e : Ty) (xs : List e.den) (i : Int) : e.den := xs.getD i.toNat e.zero
def setA (e : Ty) (xs : List e.den) (i : Int) (x : e.den) : List e.den := xs.set i.toNat x
def denFld : (t : Ty) → t.den → (i : Nat) → Option S
 | .pair a _, x, 0 => some (.iref a x.1)
 | .pair _ b, x, i + 1 => denFld b x.2 i
 | .rose a, x, i => if i < a.nfld then denFld a x.lab i else if i = a.nfld && a.chain then some (.iref (.slice (.rose a)) x.kids) else none
 | _, _, _ => none
def getT : (t : Ty) → t.den → List Step → Option S
 | t, x, [] => some (lift t x)
 | .pair a _, x, .fld 0 :: p => getT a x.1 p
 | .pair _ b, x, .fld (i + 1) :: p => getT b x.2 (.fld i :: p)
 | .arr _ e, xs, .idx i :: p => getT e (getA e xs i) p
 | .rose a, x, .fld i :: p => if i < a.nfld then getT a x.lab (.fld i :: p) else if i = a.nfld && p.isEmpty then some (.sl (.rose a) x.kids) else none
 | _, _, _ :: _ => none
termination_by structural t => t
def setT : (t : Ty) → t.den → List Step → (S → (t : Ty) → Option t.den) → S → Option t.den
 | t, _, [], low, v => low v t
 | .pair a _, x, .fld 0 :: p, low, v => (setT a x.1 p low v).map fun y => (y, x.2)
 | .pair _ b, x, .fld (i + 1) :: p, low, v => (setT b x.2 (.fld i :: p) low v).map fun y => (x.1, y)
 | .arr _ e, xs, .idx i :: p, low, v => (setT e (getA e xs i) p low v).map fun y => setA e xs i y
 | _, _, _ :: _, _, _ => none
termination_by structural t => t
def getS : List Step → S → Option S
 | [], s => some s
 | .fld i :: p, .st fs => (fs[i]?).bind (getS p)
 | .idx i :: p, .arr _ e xs => getT e (getA e xs i) p
 | _, _ => none
mutual
def sameShape : S → S → Bool
 | .arr n e _, .arr n' e' _ => n == n' && decide (e = e')
 | .arr .., _ => false
 | .st fs, .st gs => sameShapeL fs gs
 | .st _, _ => false
 | .junk, _ | .tup _, _ => false
 | _, .arr .. | _, .st _ | _, .junk | _, .tup _ => false
 | _, _ => true
def sameShapeL : List S → List S → Bool
 | [], [] => true
 | f :: r, g :: q => sameShape f g && sameShapeL r q
 | _, _ => false
end
def setS (low : S → (t : Ty) → Option t.den) : List Step → S → S → Option S
 | [], old, v => if sameShape old v then some v else none
 | .fld i :: p, .st fs, v => (fs[i]?).bind fun f => (setS low p f v).map fun f' => .st (fs.set i f')
 | .idx i :: p, .arr n e xs, v => (setT e (getA e xs i) p low v).map fun y => .arr n e (setA e xs i y)
 | _, _, _ => none
def getE (ent : Ent) (p : List Step) : Option S :=
 match ent, p with
 | .box s _, p => getS p s
 | .buf e xs _, .idx i :: p => getT e (getA e xs i) p
 | _, _ => none
def pathBT : Ty → List Step → Bool
 | _, [] => true
 | .pair a _, .fld 0 :: p => pathBT a p
 | .pair _ b, .fld (i + 1) :: p => pathBT b (.fld i :: p)
 | .arr _ e, .idx _ :: p => pathBT e p
 | .rose a, .fld i :: p => if i < a.nfld then pathBT a (.fld i :: p) else decide (i = a.nfld) && a.chain && p.isEmpty
 | _, _ :: _ => false
termination_by structural t => t
def pathBS : List Step → S → Bool
 | [], _ => true
 | .fld i :: p, .st fs => match fs[i]? with | some f => pathBS p f | none => false
 | .idx _ :: p, .arr _ e _ => pathBT e p
 | _, _ => false
def pathBE : Ent → List Step → Bool
 | .box s _, p => pathBS p s
 | .buf e _ _, .idx _ :: p => pathBT e p
 | _, _ => false
def thru : List Step → Bool
 | [] => false
 | .fld _ :: p => thru p
 | .idx _ :: _ => true
def setE (low : S → (t : Ty) → Option t.den) (ent : Ent) (p : List Step) (v : S) : Option Ent :=
 match ent, p with
 | .box s false, p => (setS low p s v).map (.box · false)
 | .buf e xs false, .idx i :: p => (setT e (getA e xs i) p low v).map fun y => .buf e (setA e xs i y) false
 | _, _ => none
def cellsT (P : Program) (t : TypeId) : Option Nat :=
 match P.underlying t with
 | some _ => (P.info? t).map (·.size)
 | none => none
def recF (P : Program) (t : TypeId) : List Field → Option (List Field)
 | [] => none
 | [f] =>
  match P.underlying f.type with
  | some (.slice e) => if e = t then some [] else none
  | _ => none
 | f :: r => (recF P t r).map (f :: ·)
mutual
def tyOf (P : Program) : Nat → TypeId → Option Ty
 | 0, _ => none
 | n + 1, t =>
  match P.underlying t with
  | some (.int k) => some (.int k)
  | some .bool => some .bool
  | some .string => some .str
  | some (.slice e) => (tyOf P n e).map .slice
  | some (.array len e) => (tyOf P n e).map (.arr len)
  | some (.struct fs) =>
   match recF P t fs.toList with
   | some q => (tyFs P n q).map fun a => .rose a.nwT
   | none => tyFs P n fs.toList
  | some (.interface ms) => if ms.isEmpty then none else some .err
  | _ => none
def tyFs (P : Program) : Nat → List Field → Option Ty
 | 0, _ => none
 | _, [] => some .unit
 | n + 1, f :: r =>
  match tyOf P n f.type, tyFs P n r with
  | some a, some b => some (.pair a b)
  | _, _ => none
end
mutual
def zeroOf (P : Program) : Nat → TypeId → Option S
 | 0, _ => none
 | n + 1, t =>
  match P.underlying t with
  | some (.int k) => some (.int k 0)
  | some .bool => some (.bool false)
  | some .string => some (.str [])
  | some (.slice _) => some .nilsl
  | some (.pointer _) => some .nilp
  | some (.map ..) => some .nilmp
  | some (.func ..) => some .nilfn
  | some (.interface ms) => some (if ms.isEmpty then .nili else .err .nil)
  | some (.array len e) => (tyOf P n e).map fun e => .arr len e (List.replicate len e.zero)
  | some (.struct fs) => (zeroFs P n fs.toList).map .st
  | _ => none
def zeroFs (P : Program) : Nat → List Field → Option (List S)
 | 0, _ => none
 | _, [] => some []
 | n + 1, f :: r =>
  match zeroOf P n f.type, zeroFs P n r with
  | some a, some b => some (a :: b)
  | _, _ => none
end
def FUEL : Nat := 40
def concT (P : Program) (t : TypeId) : Bool :=
 match P.underlying t with
 | some (.interface _) | none => false
 | _ => true
def isAggT (P : Program) (t : TypeId) : Bool :=
 match P.underlying t with
 | some (.struct _) | some (.array ..) => true
 | _ => false
def bytesL (s : ByteArray) : List Int := s.data.toList.map fun b => (b.toNat : Int)
def inK (k : IntKind) (n : Int) : Bool := decide (k.min ≤ n) && decide (n ≤ k.max)
def ofConst : Value → S
 | .int k n => if inK k n then .int k n else .junk
 | .bool b => .bool b
 | .string s => if decide ((bytesL s).length ≤ 65536) then .str (bytesL s) else .junk
 | .slice none 0 0 => .nilsl
 | .pointer none => .nilp
 | .nilIface => .err .nil
 | .nilFunc => .nilfn
 | .map none => .nilmp
 | _ => .junk
def evalS (sl : List S) : Operand → S
 | .tmp t => sl.getD t .junk
 | .const v => ofConst v
 | .global g => .gptr g []
 | .func f => .fn f []
def isZ : Ty → List Value → Bool
 | .int k, [.int k' n] => decide (k = k') && decide (n = 0)
 | .bool, [.bool b] => !b
 | .str, [.string s] => s.data.isEmpty
 | .slice _, [.slice none 0 0] => true
 | .unit, [] => true
 | .pair a b, cs => isZ a (cs.take a.size) && isZ b (cs.drop a.size)
 | .arr n e, cs => decide (cs.length = n * e.size) && (List.range n).all fun i => isZ e ((cs.drop (i * e.size)).take e.size)
 | .rose a, cs => isZ a (cs.take a.size) && (match cs.drop a.size with | [.slice none 0 0] => true | _ => false)
 | .err, [.nilIface] => true
 | _, _ => false
mutual
def isZS : S → List Value → Bool
 | .int k n, [.int k' n'] => decide (k = k') && decide (n = 0) && decide (n' = 0)
 | .bool b, [.bool b'] => !b && !b'
 | .str [], [.string s] => s.data.isEmpty
 | .nilsl, [.slice none 0 0] => true
 | .nilp, [.pointer none] => true
 | .nilmp, [.map none] => true
 | .nilfn, [.nilFunc] => true
 | .nili, [.nilIface] => true
 | .err .nil, [.nilIface] => true
 | .arr n e xs, cs => isZ (.arr n e) cs
 | .st fs, cs => isZL fs cs
 | _, _ => false
def isZL : List S → List Value → Bool
 | [], [] => true
 | f :: r, cs => isZS f (cs.take f.size) && isZL r (cs.drop f.size)
 | _, _ => false
end
def zeroC (P : Program) (t : TypeId) : Option S :=
 match zeroOf P FUEL t, P.info? t with
 | some s, some i =>
  match i.zero with
  | some z => if isZS s z.cells.toList then some s else none
  | none => none
 | _, _ => none
def elemC (P : Program) (t : TypeId) : Option Ty :=
 match tyOf P FUEL t, P.info? t with
 | some e, some i =>
  match i.zero with
  | some z => if isZ e z.cells.toList && decide (i.size = e.size) && decide (0 < e.size) && decide (0 < i.bytes) && decide (i.bytes ≤ 4096) then some e else none
  | none => none
 | _, _ => none
def sliceC (P : Program) (t : TypeId) : Option Ty :=
 match P.underlying t with
 | some (.slice e) => elemC P e
 | _ => none
def mfind {α β : Type} (eq : α → α → Bool) : List (α × β) → α → Option β
 | [], _ => none
 | (a, b) :: r, k => bif eq k a then some b else mfind eq r k
def mput {α β : Type} (eq : α → α → Bool) : List (α × β) → α → β → List (α × β)
 | [], k, v => [(k, v)]
 | (a, b) :: r, k, v => bif eq k a then (k, v) :: r else (a, b) :: mput eq r k v
def zeroForm (P : Program) (t : TypeId) (vt : Ty) : Bool :=
 match (P.info? t).bind (·.zero) with
 | some (.agg _) => (lift vt vt.zero).isAgg
 | some _ => !(lift vt vt.zero).isAgg
 | none => false
def keyTy : Ty → Bool
 | .int _ | .str => true
 | _ => false
def eqK : (t : Ty) → t.den → t.den → Bool
 | .int _ => fun (a b : Int) => decide (a = b)
 | .str => fun (a b : List Int) => decide (a = b)
 | _ => fun _ _ => false
structure Ctx where
 P : Program
 mv : List Nat := []
 pu : List Nat := []
 glob : Nat → Option S := fun _ => none
 live : Nat → List Nat := fun _ => []
 out : Nat → List Nat := fun _ => []
 frz : Nat → List Nat := fun _ => []
 ex : Bool := false      -- what is made keeps its room in sight
 bef : Nat → List Nat := fun _ => []      -- of each region that draws its order: of each operation, which ones come before it in every order
def puOf (C : Ctx) : Option Tmp → Bool
 | some t => C.pu.contains t
 | none => false
def mvOf (C : Ctx) : Option Tmp → Bool
 | some t => C.mv.contains t
 | none => false
structure OpR where
 g : List Bool
 v : S
 ef : List (Nat × Option Ent)
def mk (ep dst j : Nat) : Nat := (ep * 4096 + dst) * 64 + j
mutual
def plain : S → Bool
 | .junk | .tup _ => false
 | .st fs => plainL fs
 | _ => true
def plainL : List S → Bool
 | [] => true
 | f :: r => plain f && plainL r
end
def freezes (tb : Tbl) : List Nat → List (Nat × Option Ent)
 | [] => []
 | k :: r => match tb k with
  | some e => (k, some e.freeze) :: freezes tb r
  | none => freezes tb r
def ok (v : S) : Option OpR := some ⟨[], v, []⟩
theorem wall_ex (x : Int) : ∃ y : Int, y = x := ⟨x, rfl⟩
noncomputable def wall (x : Int) : Int := Classical.choose (wall_ex x)
theorem wall_eq (x : Int) : wall x = x := Classical.choose_spec (wall_ex x)
noncomputable def bvop (k : IntKind) (op : BinOp) (a b : Int) : Int :=
 match op with
 | .and => wall (k.wrap ((BitVec.ofInt k.bits a &&& BitVec.ofInt k.bits b).toNat : Int))
 | .or => wall (k.wrap ((BitVec.ofInt k.bits a ||| BitVec.ofInt k.bits b).toNat : Int))
 | .xor => wall (k.wrap ((BitVec.ofInt k.bits a ^^^ BitVec.ofInt k.bits b).toNat : Int))
 | _ => wall (k.wrap ((BitVec.ofInt k.bits a &&& ~~~ BitVec.ofInt k.bits b).toNat : Int))
noncomputable def shl (k : IntKind) (a b : Int) : Int := wall (k.wrap (a * 2 ^ (min b.toNat k.bits)))
noncomputable def shr (k : IntKind) (a b : Int) : Int := wall (a.fdiv (2 ^ (min b.toNat k.bits)))
noncomputable def mulZ (a b : Int) : Int := wall (a * b)
def ltL : List Int → List Int → Bool
 | _, [] => false
 | [], _ :: _ => true
 | a :: x, b :: y => decide (a < b) || (decide (a = b) && ltL x y)
def eqS : S → S → Option Bool
 | .int k a, .int k' b => if k = k' then some (decide (a = b)) else none
 | .bool a, .bool b => some (decide (a = b))
 | .str a, .str b => some (decide (a = b))
 | .arr n e xs, .arr n' e' ys =>
  if n = n' then (if h : e' = e then (match e, xs, castL h ys with
   | .int _, xs, ys => some (decide (xs = ys))
   | .bool, xs, ys => some (decide (xs = ys))
   | _, _, _ => none) else none) else none
 | .err a, .err .nil => some a.isNil
 | _, _ => none
def isEq : BinOp → Bool
 | .eql | .neq => true
 | _ => false
def eqOk (P : Program) (t : TypeId) : S → Bool
 | .bool _ =>
  match P.underlying t with
  | some .bool => true
  | _ => false
 | .arr n e _ =>
  match P.underlying t with
  | some (.array len et) =>
   decide (len = n) && cellsT P et == some 1 &&
   (match e, P.underlying et with
   | .int _, some (.int _) => true
   | .bool, some .bool => true
   | _, _ => false)
  | _ => false
 | .err _ =>
  match P.underlying t with
  | some (.interface _) => true
  | _ => false
 | _ => true
def errLit : S → Operand → Bool
 | .err _, .const _ => true
 | .err _, _ => false
 | _, _ => true
def SMALL : Nat := 17179869184
noncomputable def binS (op : BinOp) (x y : S) : Option OpR :=
 match op, x, y with
 | .shl, .int k a, .int _ b => some ⟨[decide (0 ≤ b)], .int k (shl k a b), []⟩
 | .shr, .int k a, .int _ b => some ⟨[decide (0 ≤ b)], .int k (shr k a b), []⟩
 | .quo, .int k a, .int k' b => if k = k' then some ⟨[decide (b ≠ 0)], .int k (k.wrap (a.tdiv b)), []⟩ else none
 | .rem, .int k a, .int k' b => if k = k' then some ⟨[decide (b ≠ 0)], .int k (a.tmod b), []⟩ else none
 | .add, .int k a, .int k' b => if k = k' then ok (.int k (k.wrap (a + b))) else none
 | .sub, .int k a, .int k' b => if k = k' then ok (.int k (k.wrap (a - b))) else none
 | .mul, .int k a, .int k' b => if k = k' then ok (.int k (k.wrap (mulZ a b))) else none
 | .and, .int k a, .int k' b => if k = k' then ok (.int k (bvop k .and a b)) else none
 | .or, .int k a, .int k' b => if k = k' then ok (.int k (bvop k .or a b)) else none
 | .xor, .int k a, .int k' b => if k = k' then ok (.int k (bvop k .xor a b)) else none
 | .andNot, .int k a, .int k' b => if k = k' then ok (.int k (bvop k .andNot a b)) else none
 | .lss, .int k a, .int k' b => if k = k' then ok (.bool (decide (a < b))) else none
 | .leq, .int k a, .int k' b => if k = k' then ok (.bool (decide (a ≤ b))) else none
 | .gtr, .int k a, .int k' b => if k = k' then ok (.bool (decide (b < a))) else none
 | .geq, .int k a, .int k' b => if k = k' then ok (.bool (decide (b ≤ a))) else none
 | .add, .str a, .str b => some ⟨[decide (a.length + b.length < SMALL)], .str (a ++ b), []⟩
 | .lss, .str a, .str b => ok (.bool (ltL a b))
 | .geq, .str a, .str b => ok (.bool (!ltL a b))
 | .gtr, .str a, .str b => ok (.bool (ltL b a))
 | .leq, .str a, .str b => ok (.bool (!ltL b a))
 | .eql, x, y => (eqS x y).bind fun b => ok (.bool b)
 | .neq, x, y => (eqS x y).bind fun b => ok (.bool (!b))
 | _, _, _ => none
noncomputable def unS (op : UnOp) (x : S) : Option OpR :=
 match op, x with
 | .not, .bool b => ok (.bool (!b))
 | .neg, .int k n => ok (.int k (k.wrap (0 - n)))
 | .xor, .int k n => ok (.int k (bvop k .xor (if k.signed then -1 else k.max) n))
 | _, _ => none
def listOf (tb : Tbl) (e : Ty) : S → Option (List e.den)
 | .sl e' xs => if h : e' = e then some (castL h xs) else unL e' e xs
 | .nilsl => some []
 | .own _ k =>
  match tb k with
  | some (.buf e' xs _) => if h : e' = e then some (castL h xs) else none
  | _ => none
 | .twn _ k n =>
  match tb k with
  | some (.buf e' xs _) => if h : e' = e then some (castL h (xs.take n.toNat)) else none
  | _ => none
 | .str s => match e with
  | .int .u8 => some s
  | _ => none
 | _ => none
def lenS (tb : Tbl) : S → Option Int
 | .sl _ xs => some xs.length
 | .nilsl => some 0
 | .str s => some s.length
 | .arr n _ _ => some n
 | .own _ k => match tb k with
  | some (.buf _ xs _) => some xs.length
  | _ => none
 | .twn _ k n => match tb k with
  | some (.buf ..) => some n
  | _ => none
 | .nilmp => some 0
 | _ => none
def lenOk (P : Program) (tys : Array TypeId) (x : S) : Bool :=
 match (tys[0]?).bind P.underlying, x with
 | some (.slice _), .sl .. | some (.slice _), .nilsl | some (.slice _), .own .. | some (.slice _), .twn .. => true
 | some .string, .str _ => true
 | some (.array n _), .arr m .. => decide (n = m) && decide (n < 4294967296)
 | some (.map ..), .nilmp | some (.map ..), .mp _ => true
 | _, _ => false
def sub {α : Type} (xs : List α) : Option Int → Option Int → List α
 | none, none => xs
 | some l, none => xs.drop l.toNat
 | none, some h => xs.take h.toNat
 | some l, some h => (xs.drop l.toNat).take (h.toNat - l.toNat)
def subG (n : Int) : Option Int → Option Int → Option Int → List Bool
 | none, none, none => []
 | some l, none, none => [decide (0 ≤ l), decide (l ≤ n)]
 | none, some h, none => [decide (0 ≤ h), decide (h ≤ n)]
 | some l, some h, none => [decide (0 ≤ h), decide (h ≤ n), decide (0 ≤ l), decide (l ≤ h)]
 | none, some h, some m => [decide (0 ≤ m), decide (m ≤ n), decide (0 ≤ h), decide (h ≤ m)]
 | some l, some h, some m => [decide (0 ≤ m), decide (m ≤ n), decide (0 ≤ h), decide (h ≤ m), decide (0 ≤ l), decide (l ≤ h)]
 | _, none, some _ => [false]
def asI : S → Option Int
 | .int _ n => some n
 | _ => none
def asIO (ev : Operand → S) : Option Operand → Option (Option Int)
 | none => some none
 | some x => (asI (ev x)).map some
def cz0 : Option Operand → Bool
 | some (.const (.int _ 0)) => true
 | _ => false
def mx (a b : Int) : Int := if b > a then b else a
def mn (a b : Int) : Int := if b < a then b else a
def appOk (P : Program) (tys : Array TypeId) : Bool :=
 match tys[1]? with
 | none => true
 | some t =>
  match P.underlying t with
  | some (.slice _) | some .string => true
  | _ => false
def builtinS (C : Ctx) (b : Builtin) (tys : Array TypeId) (ep d : Nat) (args : List S) (tb : Tbl) : Option OpR :=
 match b, args with
 | .len, [.mp k] =>
  if lenOk C.P tys (.mp k) then
   match tb k with
   | some (.map _ _ m _) => some ⟨[decide (m.length < SMALL)], .int .i64 m.length, []⟩
   | _ => none
  else none
 | .len, [x] => if lenOk C.P tys x then (lenS tb x).bind fun n => ok (.int .i64 n) else none
 | .cap, [.twn e k n] =>
  if lenOk C.P tys (.twn e k n) then
   match tb k with
   | some (.buf _ xs _) => ok (.int .i64 xs.length)
   | _ => none
  else none
 | .max, [.int k a, .int k' b] => if k = k' then ok (.int k (mx a b)) else none
 | .min, [.int k a, .int k' b] => if k = k' then ok (.int k (mn a b)) else none
 | .append, [x, y] =>
  match tys[0]? with
  | some t =>
   match sliceC C.P t, appOk C.P tys with
   | some e, true =>
    match listOf tb e y with
    | some ys =>
     match x with
     | .nilsl => some ⟨[decide (ys.length < SMALL)], .own e (mk ep d 0), [(mk ep d 0, some (.buf e ys false))]⟩
     | .own _ k =>
      match tb k with
      | some (.buf e' xs false) =>
       if h : e' = e then
        some ⟨[decide (xs.length + ys.length < SMALL)], .own e (mk ep d 0), [(k, none), (mk ep d 0, some (.buf e (castL h xs ++ ys) false))]⟩
       else none
      | _ => none
     | _ => none
    | none => none
   | _, _ => none
  | none => none
 | .copy, [.own _ k, y] =>
  match tb k with
  | some (.buf e xs false) =>
   match listOf tb e y with
   | some ys =>
    if decide ((tys[0]?).bind (sliceC C.P) = some e) then
     some ⟨[], .int .i64 (Nat.min ys.length xs.length), [(k, some (.buf e (ys.take xs.length ++ xs.drop ys.length) false))]⟩
    else none
   | none => none
  | _ => none
 | .copy, [.twn _ k n, y] =>
  match tb k with
  | some (.buf e xs false) =>
   match listOf tb e y with
   | some ys =>
    if decide ((tys[0]?).bind (sliceC C.P) = some e) then
     some ⟨[decide (n = xs.length)], .int .i64 (Nat.min ys.length xs.length), [(k, some (.buf e (ys.take xs.length ++ xs.drop ys.length) false))]⟩
    else none
   | none => none
  | _ => none
 | _, _ => none
def addParts (C : Ctx) (tb : Tbl) (e : Ty) (ev : Operand → S) : List (Nat × Operand) → List e.den → Option (List e.den)
 | [], xs => some xs
 | (i, x) :: r, xs =>
  if i < xs.length then
   match lower tb (ev x) e with
   | some y => addParts C tb e ev r (xs.set i y)
   | none => none
  else none
def partKeys (ev : Operand → S) : List (Nat × Operand) → List Nat
 | [] => []
 | (_, x) :: r => ownKeys (ev x) ++ partKeys ev r
def addFields (fs : Array Field) (P : Program) (ev : Operand → S) (zs : List S) : List (Nat × Operand) → List S → Option (List S)
 | [], xs => some xs
 | (i, x) :: r, xs =>
  match fs[i]?, xs[i]? with
  | some f, some old =>
   if f.offset = offL zs i && cellsT P f.type == some (ev x).size && sameShape old (ev x) then addFields fs P ev zs r (xs.set i (ev x)) else none
  | _, _ => none
mutual
def nilOwn (P : Program) (ep d : Nat) : TypeId → S → Nat → S × List (Nat × Option Ent) × Nat
 | t, .nilsl, j =>
  match sliceC P t with
  | some e => if j < 60 then (.own e (mk ep d j), [(mk ep d j, some (.buf e [] false))], j + 1) else (.nilsl, [], j)
  | none => (.nilsl, [], j)
 | t, .st fs, j =>
  match P.underlying t with
  | some (.struct ts) => let r := nilOwnL P ep d ts.toList fs j; (.st r.1, r.2.1, r.2.2)
  | _ => (.st fs, [], j)
 | _, s, j => (s, [], j)
def nilOwnL (P : Program) (ep d : Nat) : List Field → List S → Nat → List S × List (Nat × Option Ent) × Nat
 | t :: ts, f :: fs, j =>
  let r := nilOwn P ep d t.type f j
  let q := nilOwnL P ep d ts fs r.2.2
  (r.1 :: q.1, r.2.1 ++ q.2.1, q.2.2)
 | _, fs, j => (fs, [], j)
end
def mapUpdS (C : Ctx) (tb : Tbl) (t : TypeId) (m k v : S) : Option OpR :=
 match m, C.P.underlying t with
 | .mp key, some (.map kty _) =>
  match tb key with
  | some (.map kt vt es false) =>
   match lower tb k kt, lower tb v vt with
   | some a, some b =>
    if decide (tyOf C.P FUEL kty = some kt) && keyTy kt && v.isAgg == (lift vt vt.zero).isAgg then
     some ⟨[], .junk, freezes tb (ownKeys v) ++ [(key, some (.map kt vt (mput (eqK kt) es a b) false))]⟩
    else none
   | _, _ => none
  | _ => none
 | _, _ => none
def convS (C : Ctx) (ep d : Nat) (src dst : TypeId) (x : S) (l : Option (List Int)) : Option OpR :=
 match C.P.underlying src, C.P.underlying dst, x with
 | some _, some (.int k), .int _ n => ok (.int k (k.wrap n))
 | some _, some .string, .str s => ok (.str s)
 | some (.slice e), some .string, _ =>
  match C.P.underlying e with
  | some (.int .u8) => l.bind fun xs => ok (.str xs)
  | _ => none
 | some _, some (.slice e), .str s =>
  match C.P.underlying e with
  | some (.int .u8) => some ⟨[], .own (.int .u8) (mk ep d 0), [(mk ep d 0, some (.buf (.int .u8) s false))]⟩
  | _ => none
 | _, _, _ => none
inductive EC where
 | int (n : Int) | err (x : Err)
mutual
def errC : S → Option (List EC)
 | .int .i64 n => some [.int n]
 | .err x => some [.err x]
 | .st fs => errCL fs
 | _ => none
def errCL : List S → Option (List EC)
 | [] => some []
 | f :: r =>
  match errC f, errCL r with
  | some a, some b => some (a ++ b)
  | _, _ => none
end
def intsEC : List EC → Option (List Int)
 | [] => some []
 | .int n :: r => (intsEC r).map (n :: ·)
 | .err _ :: _ => none
def errN (t : Nat) : List Int → List EC → Option Err
 | pre, [] => some (.leaf t pre)
 | pre, .int n :: r => errN t (pre ++ [n]) r
 | pre, .err x :: r => (intsEC r).map fun post => .wrap t pre x post
def errOf (tb : Tbl) (t : TypeId) : S → Option (Err × Nat)
 | .ptr k [] =>
  match tb k with
  | some (.box (.st fs) _) => ((errCL fs).bind (errN t [])).map fun e => (e, k)
  | _ => none
 | _ => none
def isOwnS : S → Bool
 | .own .. => true
 | _ => false
def markS (C : Ctx) (dst : TypeId) (x : S) (tb : Tbl) : Option OpR :=
 match C.P.underlying dst, x with
 | some (.slice e), .own (.int .u8) k =>
  match C.P.underlying e, tb k with
  | some (.int .u8), some (.buf (.int .u8) xs false) => some ⟨[decide (0 < xs.length)], .own (.int .u8) k, [(k, some (.buf (.int .u8) xs false))]⟩
  | _, _ => none
 | _, _ => none
def puS (C : Ctx) (tb : Tbl) (t : TypeId) (v : S) : Option (S × List (Nat × Option Ent)) :=
 match tyOf C.P FUEL t with
 | some ty => (lower tb v ty).map fun x => (lift ty x, freezes tb (ownKeys v))
 | none => none
def tmpOf : Operand → Option Tmp
 | .tmp t => some t
 | _ => none
def storePuS (C : Ctx) (tb : Tbl) (t : TypeId) (k : Nat) (p : List Step) (v : S) : Option OpR :=
 match tb k with
 | some (.box s false) =>
  match thru p, puS C tb t v with
  | false, some q =>
   (setS (fun s t => lower tb s t) p s q.1).bind fun s' =>
    if cellsT C.P t == some v.size && decide (0 < v.size) && plain v && !(ownKeys v).contains k then some ⟨[], .junk, q.2 ++ [(k, some (.box s' false))]⟩ else none
  | _, _ => none
 | _ => none
noncomputable def opS (C : Ctx) (o : Oper) (ep d : Nat) (ev : Operand → S) (tb : Tbl) : Option OpR :=
 if !decide (d < 4096) then none else
 match o.op with
 | .move x => let r := nilOwn C.P ep d o.type (ev x) 0; some ⟨[], r.1, r.2.1⟩
 | .assign x =>
  if puOf C o.dst then
   match puS C tb o.type (ev x) with
   | some r => some ⟨[], r.1, r.2⟩
   | none => none
  else let r := nilOwn C.P ep d o.type (ev x) 0; some ⟨[], r.1, r.2.1⟩
 | .pick c a b =>
  match ev c with
  | .bool true => ok (ev a)
  | .bool false => ok (ev b)
  | _ => none
 | .alloc t =>
  match zeroC C.P t with
  | some s => let r := nilOwn C.P ep d t s 1; some ⟨[], .ptr (mk ep d 0) [], r.2.1 ++ [(mk ep d 0, some (.box r.1 false))]⟩
  | none => none
 | .box t x =>
  if plain (ev x) then (let r := nilOwn C.P ep d t (ev x) 1; some ⟨[], .ptr (mk ep d 0) [], r.2.1 ++ [(mk ep d 0, some (.box r.1 false))]⟩) else none
 | .build t parts =>
  match zeroC C.P t, C.P.underlying t with
  | some (.st zs), some (.struct fs) =>
   if fs.all fun f => (C.P.info? f.type).isSome then
    (addFields fs C.P ev zs parts.toList zs).bind fun xs => let r := nilOwn C.P ep d t (.st xs) 0; some ⟨[], r.1, r.2.1⟩
   else none
  | some (.arr n e zs), some (.array _ et) =>
   if cellsT C.P et = some e.size then
    (addParts C tb e ev parts.toList zs).bind fun xs => some ⟨[], .arr n e xs, freezes tb (partKeys ev parts.toList)⟩
   else none
  | _, _ => none
 | .buildSlice t n parts =>
  match sliceC C.P t with
  | some e =>
   if n * e.size < 65536 then
    (addParts C tb e ev parts.toList (List.replicate n e.zero)).bind fun xs =>
     some ⟨[], .own e (mk ep d 0), freezes tb (partKeys ev parts.toList) ++ [(mk ep d 0, some (.buf e xs false))]⟩
   else none
  | none => none
 | .load t a =>
  match ev a with
  | .ptr k p => (tb k).bind fun ent => (getE ent p).bind fun s => if s.isAgg == isAggT C.P t && cellsT C.P t == some s.size then ok s else none
  | .iref u x => let s := lift u x; if s.isAgg == isAggT C.P t && cellsT C.P t == some s.size then ok s else none
  | .gptr g p => (C.glob g).bind fun s => (getS p s).bind fun s => if s.isAgg == isAggT C.P t && cellsT C.P t == some s.size then ok s else none
  | _ => none
 | .store t a x =>
  match ev a with
  | .ptr k p => if puOf C (tmpOf a) then storePuS C tb t k p (ev x) else (tb k).bind fun ent =>
   let r := nilOwn C.P ep d t (ev x) 0
   let own := match ent with | .box .. => !thru p | _ => false
   let v := match own with | true => r.1 | false => ev x
   (setE (fun s t => lower tb s t) ent p v).bind fun ent' =>
   if cellsT C.P t == some (ev x).size && decide (0 < (ev x).size) && plain (ev x) && !(ownKeys (ev x)).contains k then
    some ⟨[], .junk, (match own with | true => r.2.1 | false => freezes tb (ownKeys (ev x))) ++ [(k, some ent')]⟩ else none
  | _ => none
 | .nilCheck x =>
  match ev x with
  | .ptr k p => ok (.ptr k p)
  | .iref t x => ok (.iref t x)
  | .gptr g p => ok (.gptr g p)
  | .fn f c => ok (.fn f c)
  | _ => none
 | .binOp op t x y _ => if isEq op && !(eqOk C.P t (ev x) && errLit (ev x) y) then none else binS op (ev x) (ev y)
 | .unOp op _ x => unS op (ev x)
 | .convert src dst x => if decide (src = dst) && isOwnS (ev x) then markS C dst (ev x) tb else convS C ep d src dst (ev x) (listOf tb (.int .u8) (ev x))
 | .makeFunc (.func f) first cap => if first.isEmpty then ok (.fn f (cap.toList.map ev)) else none
 | .makeInterface t x =>
  match errOf tb t (ev x) with
  | some r => if concT C.P t then some ⟨[], .err r.1, freezes tb [r.2]⟩ else none
  | none => if plain (ev x) && concT C.P t then ok (.iface t (ev x)) else none
 | .makeSlice t l c =>
  match sliceC C.P t, ev l, ev c with
  | some e, .int _ n, .int _ m =>
   if C.ex then some ⟨[decide (0 ≤ n), decide (n = m), decide (m < SMALL)], .twn e (mk ep d 0) n, [(mk ep d 0, some (.buf e (List.replicate n.toNat e.zero) false))]⟩
   else some ⟨[decide (0 ≤ n), decide (n ≤ m), decide (m < SMALL)], .own e (mk ep d 0), [(mk ep d 0, some (.buf e (List.replicate n.toNat e.zero) false))]⟩
  | _, _, _ => none
 | .slice t x lo0 hi0 mx0 =>
  match asIO ev lo0, asIO ev hi0, asIO ev mx0 with
  | some lo, some hi, some mx =>
   match C.P.underlying t, ev x with
   | some .string, .str s => if mx.isNone then some ⟨subG s.length lo hi mx, .str (sub s lo hi), []⟩ else none
   | some (.slice et), .sl e xs =>
    if cellsT C.P et = some e.size then
     bif cz0 hi0 && cz0 mx0 then
      match hi, mx with
      | some 0, some 0 => some ⟨subG xs.length lo hi mx, .nilsl, []⟩
      | _, _ => none
     else some ⟨subG xs.length lo hi mx, .sl e (sub xs lo hi), []⟩
    else none
   | some (.slice et), .nilsl => if (cellsT C.P et).isSome then some ⟨subG 0 lo hi mx, .nilsl, []⟩ else none
   | some (.slice et), .own _ k =>
    match tb k with
    | some (.buf e xs fz) =>
     if cellsT C.P et = some e.size then
      if mvOf C o.dst then
       if fz || mx.isSome then none
       else some ⟨subG xs.length lo hi mx, .own e (mk ep d 0), [(k, none), (mk ep d 0, some (.buf e (sub xs lo hi) false))]⟩
      else some ⟨subG xs.length lo hi mx, .sl e (sub xs lo hi), [(k, some (.buf e xs true))]⟩
     else none
    | _ => none
   | some (.slice et), .twn u k _ =>
    match tb k with
    | some (.buf e xs _) =>
     if cellsT C.P et = some e.size then
      match lo, hi, mx with
      | none, some h, none => some ⟨[decide (0 ≤ h), decide (h ≤ xs.length)], .twn u k h, []⟩
      | _, _, _ => none
     else none
    | _ => none
   | some (.array n et), .ptr k [] =>
    match tb k with
    | some (.box (.arr n' e xs) _) =>
     if decide (n = n') && decide (n < 4294967296) && cellsT C.P et == some e.size && lo.isNone && hi.isNone && mx.isNone then
      some ⟨[], .sl e xs, [(k, some (.box (.arr n' e xs) true))]⟩
     else none
    | _ => none
   | some (.array n et), .ptr k [.fld f] =>
    match tb k with
    | some (.box (.st fs) _) =>
     match fs[f]? with
     | some (.arr n' e xs) =>
      if decide (n = n') && decide (n < 4294967296) && cellsT C.P et == some e.size && lo.isNone && hi.isNone && mx.isNone then
       some ⟨[], .sl e xs, [(k, some (.box (.st fs) true))]⟩
      else none
     | _ => none
    | _ => none
   | _, _ => none
  | _, _, _ => none
 | .fieldAddr t x i =>
  match C.P.underlying t with
  | some (.struct fs) =>
   match fs[i]? with
   | some f =>
    match cellsT C.P f.type with
    | some (n + 1) =>
     match ev x with
     | .ptr k p =>
      match (tb k).bind (getE · p) with
      | some (.st ss) => if decide (f.offset = offL ss i) && (match tb k with | some ent => pathBE ent (p ++ [.fld i]) | none => false) then ok (.ptr k (p ++ [.fld i])) else none
      | _ => none
     | .iref u y =>
      match denFld u y i with
      | some s => if f.offset = u.offF i then ok s else none
      | none => none
     | .gptr g p =>
      match (C.glob g).bind (getS p) with
      | some (.st ss) => if decide (f.offset = offL ss i) && (match C.glob g with | some s => pathBS (p ++ [.fld i]) s | none => false) then ok (.gptr g (p ++ [.fld i])) else none
      | _ => none
     | _ => none
    | _ => none
   | none => none
  | _ => none
 | .field t x i =>
  match C.P.underlying t, ev x with
  | some (.struct fs), .st ss =>
   match fs[i]?, ss[i]? with
   | some f, some s => if f.offset = offL ss i && cellsT C.P f.type == some s.size && s.isAgg == isAggT C.P f.type then ok s else none
   | _, _ => none
  | _, _ => none
 | .indexAddr t x i =>
  match ev i with
  | .int _ n =>
   match C.P.underlying t, ev x with
   | some (.array len et), .ptr k p =>
    match (tb k).bind (getE · p) with
    | some (.arr m e _) => if len = m && cellsT C.P et == some e.size then some ⟨[decide (0 ≤ n), decide (n < len)], .ptr k (p ++ [.idx n]), []⟩ else none
    | _ => none
   | some (.array len et), .gptr g p =>
    match (C.glob g).bind (getS p) with
    | some (.arr m e _) => if len = m && cellsT C.P et == some e.size then some ⟨[decide (0 ≤ n), decide (n < len)], .gptr g (p ++ [.idx n]), []⟩ else none
    | _ => none
   | some (.array len et), .iref (.arr m e) xs =>
    if len = m && cellsT C.P et == some e.size then some ⟨[decide (0 ≤ n), decide (n < len)], .iref e (getA e xs n), []⟩ else none
   | some (.slice et), .sl e xs =>
    if cellsT C.P et = some e.size then some ⟨[decide (0 ≤ n), decide (n < xs.length)], .iref e (getA e xs n), []⟩ else none
   | some (.slice et), .own _ k =>
    match tb k with
    | some (.buf e xs _) => if cellsT C.P et = some e.size then some ⟨[decide (0 ≤ n), decide (n < xs.length)], .ptr k [.idx n], []⟩ else none
    | _ => none
   | some (.slice et), .twn _ k m =>
    match tb k with
    | some (.buf e xs _) => if cellsT C.P et = some e.size then some ⟨[decide (0 ≤ n), decide (n < m)], .ptr k [.idx n], []⟩ else none
    | _ => none
   | _, _ => none
  | _ => none
 | .index t x i =>
  match ev i with
  | .int _ n =>
   match C.P.underlying t, ev x with
   | some (.array len et), .arr m e xs =>
    if len = m && cellsT C.P et == some e.size && (lift e e.zero).isAgg == isAggT C.P et then some ⟨[decide (0 ≤ n), decide (n < len)], lift e (getA e xs n), []⟩ else none
   | some .string, .str s => some ⟨[decide (0 ≤ n), decide (n < s.length)], .int .u8 (s.getD n.toNat 0), []⟩
   | _, _ => none
  | _ => none
 | .extract x i =>
  match ev x with
  | .tup fs => (fs[i]?).bind ok
  | _ => none
 | .makeMap t r =>
  match C.P.underlying t with
  | some (.map k v) =>
   match tyOf C.P FUEL k, elemC C.P v with
   | some kt, some vt =>
    if keyTy kt && (match r with | none => true | some x => (asI (ev x)).isSome) then
     some ⟨[], .mp (mk ep d 0), [(mk ep d 0, some (.map kt vt [] false))]⟩
    else none
   | _, _ => none
  | _ => none
 | .mapUpdate t m k v | .insert t m k v => mapUpdS C tb t (ev m) (ev k) (ev v)
 | .lookup t m k okk =>
  match ev m, C.P.underlying t with
  | .mp key, some (.map kty vty) =>
   match tb key with
   | some (.map kt vt es _) =>
    match lower tb (ev k) kt with
    | some a =>
     if decide (tyOf C.P FUEL kty = some kt) && keyTy kt && decide (elemC C.P vty = some vt) && zeroForm C.P vty vt then
      let v := lift vt ((mfind (eqK kt) es a).getD vt.zero)
      if okk then ok (.tup [v, .bool (mfind (eqK kt) es a).isSome]) else ok v
     else none
    | none => none
   | _ => none
  | _, _ => none
 | .call { callee := .builtin b, args, argTypes } => builtinS C b argTypes ep d (args.toList.map ev) tb
 | _ => none
mutual
def flatTy : Ty → Bool
 | .slice _ | .rose _ | .err => false
 | .arr _ e => flatTy e
 | .pair a b => flatTy a && flatTy b
 | _ => true
end
def hdTy : Ty → Bool
 | .int k => !(k == .u8)
 | .bool | .str | .slice _ | .err => true
 | .unit | .nw _ => false
 | .rose a => hdTy a
 | .pair a _ => hdTy a
 | .arr n e => decide (0 < n) && hdTy e
def nbTy : Ty → Bool
 | .int _ | .bool | .str | .unit | .nw _ => true
 | .arr _ e => nbTy e
 | .pair a b => nbTy a && nbTy b
 | .slice e => (e.isNw || hdTy e) && nbTy e
 | .rose a => hdTy a && nbTy a
 | .err => false
def qTy (q : Bool) (t : Ty) : Bool := bif q then nbTy t else flatTy t
mutual
def flat (q : Bool) : S → Bool
 | .int .. | .bool _ | .str _ | .nilsl | .nilp | .nilfn | .nili | .nilmp => true
 | .sl e _ => qTy q (.slice e)
 | .arr _ e _ => qTy q e
 | .own e _ | .twn e _ _ => qTy q e
 | .st fs | .tup fs => flatL q fs
 | _ => false
def flatL (q : Bool) : List S → Bool
 | [] => true
 | f :: r => flat q f && flatL q r
end
def lowB (tb : Tbl) : S → Bool
 | .twn _ k _ => match tb k with | some (.buf (.int .u8) _ _) => true | _ => false
 | a => (keysOf a).isEmpty
def argsC (P : Program) (tb : Tbl) : List TypeId → List S → Option (List S)
 | t :: ts, v :: vs =>
  match argsC P tb ts vs with
  | some r =>
   match tyOf P FUEL t with
   | some ty => (lower tb v ty).map fun x => lift ty x :: r
   | none => some (v :: r)
  | none => none
 | [], vs => some vs
 | _, [] => none
def lowKeys (P : Program) : List TypeId → List S → List Nat
 | t :: ts, v :: vs => (match tyOf P FUEL t with | some _ => ownKeys v | none => []) ++ lowKeys P ts vs
 | _, _ => []
def flatE (q : Bool) : Ent → Bool
 | .box s _ => flat q s
 | .buf e _ _ => qTy q e
 | .map kt vt _ _ => qTy q kt && qTy q vt
def idxK (k : Nat) : List Nat → Nat → Option Nat
 | [], _ => none
 | j :: r, n => if k = j then some n else idxK k r (n + 1)
def sendK (ks : List Nat) (k : Nat) : Nat := (idxK k ks 0).getD 63
def entsOf (tb : Tbl) (ρ : Nat → Nat) : List Nat → Option (List Ent)
 | [] => some []
 | k :: r =>
  match tb k, entsOf tb ρ r with
  | some e, some es => some (Ent.ren ρ e :: es)
  | _, _ => none
def tbOf (es : List Ent) : Tbl := fun j => es[j]?
def Ent.pin : Ent → Bool
 | .buf .. => false
 | _ => true
def pinK (tb : Tbl) (k : Nat) : Bool :=
 match tb k with
 | some e => e.pin
 | none => false
def npOf : List Ent → Nat
 | e :: r => if e.pin then npOf r + 1 else 0
 | [] => 0
def backK (pins news : List Nat) (ep d : Nat) (k : Nat) : Nat :=
 match pins[k]? with
 | some j => j
 | none => match idxK k news 0 with
  | some i => mk ep d i
  | none => mk ep d 63
def backEf (ρ : Nat → Nat) : List (Nat × Ent) → List (Nat × Option Ent)
 | [] => []
 | (k, e) :: r => (ρ k, some (Ent.ren ρ e)) :: backEf ρ r
def killEf : List Nat → List (Nat × Option Ent)
 | [] => []
 | k :: r => (k, none) :: killEf r
def zipE : List Nat → List Ent → List (Nat × Ent)
 | k :: r, e :: q => (k, e) :: zipE r q
 | _, _ => []
abbrev CallF (R : Type) := FuncId → List S → List Ent → (S → List Ent → Option R) → Option R
def acallK {R : Type} (C : Ctx) (raw : FuncId → Bool) (cf : CallF R) (ep d : Nat) (f : FuncId) (args : List S) (tb : Tbl)
  (K : S → List (Nat × Option Ent) → Option R) : Option R :=
 let _ := z160
 match C.P.funcs[f]? with
 | none => none
 | some fn =>
  match (if raw f then some args else argsC C.P tb fn.params.toList args) with
  | none => none
  | some as =>
   let all := reach tb 4 (addAll [] (keysOfL as))
   let pins := all.filter fun k => pinK tb k || raw f
   let owns := all.filter fun k => !(pinK tb k || raw f)
   let ks := pins ++ owns
   match entsOf tb (sendK ks) ks with
   | none => none
   | some es =>
    let lows := if raw f then [] else lowKeys C.P fn.params.toList args
    iteH (decide (ks.length < 63) && decide (d < 4096) && lows.all fun k => !ks.contains k)
     (cf f (renL (sendK ks) as) es fun v es' =>
      iteH (decide (pins.length ≤ es'.length) && decide (es'.length < 63))
       (K (ren (backK pins ((List.range es'.length).drop pins.length) ep d) v)
        ((if flat (args.all (lowB tb)) v && es'.all (flatE (args.all (lowB tb))) then [] else freezes tb lows) ++ killEf owns ++
         backEf (backK pins ((List.range es'.length).drop pins.length) ep d) (zipE (List.range es'.length) es')))
       none)
     none
structure Rec where
 i : Nat
 reads : List Nat
 writes : List Nat
inductive Look where
 | nothing | entry | deep
 deriving DecidableEq
def lookOf : Op → Look
 | .move _ | .pick .. | .nilCheck _ | .binOp .. | .unOp .. | .extract .. | .field .. | .makeFunc .. | .alloc _ | .box .. | .index .. | .makeSlice .. | .makeMap .. => .nothing
 | .call { callee := .builtin .max, .. } | .call { callee := .builtin .min, .. } => .nothing
 | .call { callee := .builtin _, .. } => .entry
 | .call _ => .deep
 | _ => .entry
def callee (ev : Operand → S) : Op → Option (FuncId × List S × List S)
 | .call { callee := .value f, args, .. } =>
  match ev f with
  | .fn g cap => some (g, args.toList.map ev, cap)
  | _ => none
 | _ => none
def isCallV : Op → Bool
 | .call { callee := .value _, .. } => true
 | _ => false
def setDst (sl : List S) (d : Option Tmp) (v : S) : List S :=
 match d with
 | some d => sl.set d v
 | none => sl
def recOf (draw : Bool) (i : Nat) (o : Oper) (st : St) (ef : List (Nat × Option Ent)) : List Rec :=
 if draw then
  let ks := keysOfL (o.op.operands.toList.map (evalS st.sl))
  match lookOf o.op with
  | .nothing => [⟨i, [], ef.map (·.1)⟩]
  | .entry => [⟨i, ks, ef.map (·.1)⟩]
  | .deep => [⟨i, reach st.tb 4 (addAll [] ks), ef.map (·.1)⟩]
 else []
noncomputable def aopK {R : Type} (C : Ctx) (raw : FuncId → Bool) (cf : CallF R) (draw : Bool) (i : Nat) (o : Oper) (st : St) (K : List Rec → St → Option R) : Option R :=
 let _ := z160
 iteH (isCallV o.op)
  (match callee (evalS st.sl) o.op with
  | some (f, args, cap) =>
   acallK C raw cf st.ep i f (args ++ cap) st.tb fun v ef =>
    K (recOf draw i o st ef) ⟨setDst st.sl o.dst v, st.tb.sets ef, st.ep, st.np⟩
  | none => none)
  (match opS C o st.ep i (evalS st.sl) st.tb with
  | some r => gds r.g (K (recOf draw i o st r.ef) ⟨setDst st.sl o.dst r.v, st.tb.sets r.ef, st.ep, st.np⟩)
  | none => none)
noncomputable def aopsK {R : Type} (C : Ctx) (raw : FuncId → Bool) (cf : CallF R) (draw : Bool) (all : Array Oper) : List Oper → Nat → List Rec → St → (List Rec → St → Option R) → Option R
 | [], _, rs, st, K => let _ := z160; K rs st
 | o :: r, i, rs, st, K =>
  let _ := z160
  let run (st : St) : Option R := aopK C raw cf draw i o st fun rc st' => aopsK C raw cf draw all r (i + 1) (rs ++ rc) st' K
  let skip (st : St) : Option R := aopsK C raw cf draw all r (i + 1) rs ⟨setDst st.sl o.dst (.tup []), st.tb, st.ep, st.np⟩ K
  match o.guard with
  | none => run st
  | some (j, want) =>
   match (all[j]?).bind (·.dst) with
   | some d =>
    match st.sl.getD d .junk with
    | .bool b =>
     bif b then iteH want (run ⟨st.sl.set d (.bool true), st.tb, st.ep, st.np⟩) (skip ⟨st.sl.set d (.bool true), st.tb, st.ep, st.np⟩)
     else iteH want (skip ⟨st.sl.set d (.bool false), st.tb, st.ep, st.np⟩) (run ⟨st.sl.set d (.bool false), st.tb, st.ep, st.np⟩)
    | .tup _ => skip st
    | _ => none
   | none => none
def orAft (bef : List Nat) : List Edge → Nat
 | [] => 0
 | e :: r => (if Region.binds .any e then 2 ^ e.on ||| bef.getD e.on 0 else 0) ||| orAft bef r
def befOk (bef : List Nat) : List Oper → List Nat → Bool
 | o :: r, m :: q => decide (orAft bef o.after.toList ||| m = orAft bef o.after.toList) && befOk bef r q
 | _, [] => true
 | [], _ :: _ => false
def ordered (b : List Nat) (i j : Nat) : Bool := (b.getD j 0).testBit i || (b.getD i 0).testBit j
def meets (a b : List Nat) : Bool := a.any b.contains
def clash (x y : Rec) : Bool := meets x.writes (y.reads ++ y.writes)
def Rec.quiet (x : Rec) : Bool := x.writes.isEmpty
def recsOk (b : List Nat) (all : List Rec) : List Rec → Bool
 | [] => true
 | x :: r => (x.quiet || all.all fun y => decide (x.i = y.i) || !(clash x y || clash y x) || ordered b x.i y.i) && recsOk b all r
def backOk : Nat → List Oper → Bool
 | _, [] => true
 | i, o :: r => (o.after.toList.all fun e => !Region.binds .any e || decide (e.on < i)) && backOk (i + 1) r
def dstOf (ops : List Oper) (j : Nat) : Option Tmp := (ops[j]?).bind (·.dst)
def namesOf (ops : List Oper) (o : Oper) : List Tmp :=
 o.dst.toList ++ (o.op.operands.toList.filterMap fun | .tmp t => some t | _ => none) ++ (match o.guard with | some (j, _) => (dstOf ops j).toList | none => [])
def tempsOk (bef : List Nat) (ops : List Oper) : Bool :=
 (List.range ops.length).all fun i =>
  match dstOf ops i with
  | none => true
  | some d => (List.range ops.length).all fun j => decide (i = j) || ordered bef i j || !(match ops[j]? with | some o => (namesOf ops o).contains d | none => false)
def drawOk (bef : List Nat) (rs : List Rec) : Bool := rs.all Rec.quiet || recsOk bef rs rs
def codeOk (bef : Nat → List Nat) : Code → Bool
 | .region id ops draw => !draw || (backOk 0 ops.toList && befOk (bef id) ops.toList (bef id) && tempsOk (bef id) ops.toList)
 | .seq a b | .cond _ a b => codeOk bef a && codeOk bef b
 | .block _ a | .scope a | .loop a => codeOk bef a
 | _ => true
inductive Out where
 | norm | exit (id : Nat) | ret
 deriving DecidableEq
def firstRegion : Code → Nat
 | .region id _ _ => id
 | .seq a _ => firstRegion a
 | .block _ a | .loop a | .scope a => firstRegion a
 | _ => 0
def takeSt (live : List Nat) (st : St) : Option (List S × List Ent) :=
 let vs := live.map fun i => st.sl.getD i .junk
 let ks := reach st.tb 4 (addAll (List.range st.np) (keysOfL vs))
 if ks.length < 63 then
  match entsOf st.tb (sendK ks) ks with
  | some es => some (renL (sendK ks) vs, es)
  | none => none
 else none
def freezeAt (ps : List Nat) : Nat → List Ent → List Ent
 | _, [] => []
 | i, e :: r => (if ps.contains i then e.freeze else e) :: freezeAt ps (i + 1) r
def takeF (live ps : List Nat) (st : St) : Option (List S × List Ent) :=
 match takeSt live st with
 | some r => some (r.1, freezeAt ps 0 r.2)
 | none => none
def placeL : List Nat → List S → List S → List S
 | i :: r, v :: vs, sl => placeL r vs (sl.set i v)
 | _, _, sl => sl
def placeSt (n np : Nat) (live : List Nat) (vs : List S) (es : List Ent) : St :=
 ⟨placeL live vs (List.replicate n .junk), tbOf es, 1, np⟩
abbrev LoopF (R : Type) := Nat → Nat → Nat → Code → List S → List Ent → (Out → List S → List Ent → Option R) → Option R
noncomputable def acodeK {R : Type} (C : Ctx) (raw : FuncId → Bool) (cf : CallF R) (lf : LoopF R) : Code → St → (Out → St → Option R) → Option R
 | .skip, st, K => let _ := z160; K .norm st
 | .label _, st, K => K .norm st
 | .region id ops draw, st, K =>
  aopsK C raw cf draw ops ops.toList 0 [] st fun rs st' =>
   iteH (!draw || drawOk (C.bef id) rs) (K .norm ⟨st'.sl, st'.tb, st'.ep + 1, st'.np⟩) none
 | .seq a b, st, K => acodeK C raw cf lf a st fun o st' =>
  match o with
  | .norm => acodeK C raw cf lf b st' K
  | o => K o st'
 | .cond c x y, st, K =>
  match evalS st.sl c with
  | .bool b => bif b then acodeK C raw cf lf x st K else acodeK C raw cf lf y st K
  | _ => none
 | .block id b, st, K => acodeK C raw cf lf b st fun o st' =>
  match o with
  | .exit j => iteH (decide (j = id)) (K .norm st') (K (.exit j) st')
  | o => K o st'
 | .loop b, st, K =>
  match takeF (C.live (firstRegion b)) (C.frz (firstRegion b)) st with
  | some r => lf st.sl.length st.np (firstRegion b) b r.1 r.2 fun o vs es => K o (placeSt st.sl.length st.np (C.out (firstRegion b)) vs es)
  | none => none
 | .exit id, st, K => K (.exit id) st
 | .ret, st, K => K .ret st
 | .scope b, st, K => acodeK C raw cf lf b st K
 | _, _, _ => none
def loopKont {R : Type} (C : Ctx) (lf : LoopF R) (m np id : Nat) (b : Code) (K : Out → List S → List Ent → Option R) : Out → St → Option R := fun o st =>
 let _ := z160
 match o with
 | .norm =>
  match takeF (C.live id) (C.frz id) st with
  | some r => lf m np id b r.1 r.2 K
  | none => none
 | o =>
  match takeSt (C.out id) st with
  | some r => K o r.1 r.2
  | none => none
def loopsOf : Code → List Code
 | .seq a b => loopsOf a ++ loopsOf b
 | .cond _ a b => loopsOf a ++ loopsOf b
 | .block _ a | .scope a => loopsOf a
 | .loop a => a :: loopsOf a
 | _ => []
def findBody (id : Nat) : List Code → Code
 | [] => .skip
 | b :: r => if firstRegion b = id then b else findBody id r
def bodyOf (P : Program) (f : FuncId) : Code := ((P.funcs[f]?).bind (·.body)).getD .skip
def loopBody (P : Program) (f : FuncId) (id : Nat) : Code := findBody id (loopsOf (bodyOf P f))
def look (n : Nat) : List (Nat × List Nat) → List Nat
 | [] => []
 | (k, l) :: r => if n = k then l else look n r
def resultsS (C : Ctx) (st : St) : List ResultVar → Option (List S)
 | [] => some []
 | .tmp t :: r => (resultsS C st r).map (st.sl.getD t .junk :: ·)
 | .cell a t :: r =>
  match st.sl.getD a .junk with
  | .ptr k p => (st.tb k).bind fun ent => (getE ent p).bind fun s =>
   if s.isAgg == isAggT C.P t && cellsT C.P t == some s.size then (resultsS C st r).map (s :: ·) else none
  | _ => none
def oneOf : List S → S
 | [v] => v
 | vs => .tup vs
noncomputable def runK {R : Type} (C : Ctx) (raw : FuncId → Bool) (cf : CallF R) (lf : LoopF R) (f : FuncId) (args : List S) (es : List Ent) (K : S → List Ent → Option R) : Option R :=
 let _ := z160
 match C.P.funcs[f]? with
 | some fn =>
  match fn.body with
  | some c =>
   acodeK C raw cf lf c ⟨args ++ List.replicate (fn.ntmps - args.length) .junk, tbOf es, 1, if raw f then es.length else npOf es⟩ fun o st =>
    match o with
    | .exit _ => none
    | _ =>
     match resultsS C st fn.results.toList with
     | some vs =>
      let ks := reach st.tb 4 (addAll (List.range st.np) (keysOfL vs))
      iteH (decide (ks.length < 63))
       (match entsOf st.tb (sendK ks) ks with
       | some es' => K (ren (sendK ks) (oneOf vs)) es'
       | none => none)
       none
     | none => none
  | none => none
 | none => none
end Go.Ab
