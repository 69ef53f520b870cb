/- LeastApart: the two regions whose order is drawn. -/
import Derived.Test.YtnnojemckfikfaaRawB
namespace Go.Ab
open Go
set_option linter.unusedVariables false
set_option linter.unusedSimpArgs false
set_option maxRecDepth 4000

/-- a machine, as it lies -/
structure ApM where
  (bd k L br ob be oe nC eC : Nat)
  (rb ro rC : Nat → Nat)
  nx : Nat → Nat → Nat
  E : Nat → Bool
structure ApD (w0 : World) (m : ApM) : Prop where
  small : m.k < 17179869184
  next0 : ∃ nA, w0.cell? ⟨m.bd, 256, none⟩ = some (.slice nA m.k m.nC)
  next : 0 < m.k → w0.cell? ⟨m.bd, 256, none⟩ = some (.slice (some ⟨m.br, m.ob, none⟩) m.k m.nC)
  row0 : ∀ i, i < m.k → ∃ rA, w0.cell? ⟨m.br, m.ob + i, none⟩ = some (.slice rA m.L (m.rC i))
  row : ∀ i, i < m.k → 0 < m.L → w0.cell? ⟨m.br, m.ob + i, none⟩ = some (.slice (some ⟨m.rb i, m.ro i, none⟩) m.L (m.rC i))
  nxc : ∀ i x, i < m.k → x < m.L → w0.cell? ⟨m.rb i, m.ro i + x, none⟩ = some (.int .i64 (m.nx i x : Int))
  nxk : ∀ i x, i < m.k → x < m.L → m.nx i x < m.k
  ends : 0 < m.k → w0.cell? ⟨m.bd, 257, none⟩ = some (.slice (some ⟨m.be, m.oe, none⟩) m.k m.eC)
  bit : ∀ i, i < m.k → w0.cell? ⟨m.be, m.oe + i, none⟩ = some (.bool (m.E i))
structure ApT (P : Program) (fs : Array Field) (f1 f2 : Field) (iR iB : TypeInfo) (zR zB : Value) : Prop where
  hm : P.follows .mixedOrders = true
  hD : P.underlying 28 = some (.struct fs)
  h1 : fs[1]? = some f1
  o1 : f1.offset = 256
  c1 : cellsT P f1.type = some 1
  h2 : fs[2]? = some f2
  o2 : f2.offset = 257
  c2 : cellsT P f2.type = some 1
  u25 : P.underlying 25 = some (.slice 33)
  u26 : P.underlying 26 = some (.slice 4)
  u33 : P.underlying 33 = some (.slice 3)
  u42 : P.underlying 42 = some (.slice 26)
  u4 : P.underlying 4 = some .bool
  c25 : cellsT P 25 = some 1
  c26 : cellsT P 26 = some 1
  c33 : cellsT P 33 = some 1
  c3 : cellsT P 3 = some 1
  c4 : cellsT P 4 = some 1
  a25 : isAggT P 25 = false
  a26 : isAggT P 26 = false
  a33 : isAggT P 33 = false
  a3 : isAggT P 3 = false
  a4 : isAggT P 4 = false
  nfR : P.info? 26 = some iR
  nzR : iR.zero = some zR
  zRc : zR.cells = #[.slice none 0 0]
  zRs : iR.size = 1
  zRb : iR.bytes ≤ 4096
  nfB : P.info? 4 = some iB
  nzB : iB.zero = some zB
  zBc : zB.cells = #[.bool false]
  zBs : iB.size = 1
  zBb : iB.bytes ≤ 4096

/-- what stays -/
structure Api (w0 : World) (m : ApM) (a0 a : Act) (w : World) : Prop where
  tsz : a.tmps.size = a0.tmps.size
  df : a.defers = a0.defers
  e7 : a.eval (.tmp 7) = .pointer (some ⟨m.bd, 0, none⟩)
  e8 : a.eval (.tmp 8) = .int .i64 (m.k : Int)
  e9 : a.eval (.tmp 9) = .slice (some ⟨w0.heap.size, 0, none⟩) m.k m.k
  size : w0.heap.size ≤ w.heap.size
  os : w.os = w0.os
  tape : w.tape = w0.tape
  output : w.output = w0.output
  old : ∀ c, c < w0.heap.size → w.heap[c]? = w0.heap[c]?
theorem Api.cell {w0 w : World} {m : ApM} {a0 a : Act} (h : Api w0 m a0 a w) {b o o' : Nat} {v : Value} (hc : w0.cell? ⟨b, o, none⟩ = some v) (ho : o' = o) : w.cell? ⟨b, o', none⟩ = some v := by
  rw [ho, cell_same (h.old b (cell_lt hc))]; exact hc
theorem Api.put {w0 w : World} {m : ApM} {a0 a a' : Act} (h : Api w0 m a0 a w) {d : Nat} {u : Value} (hp : Puts a d u a') (hd : d < 7 ∨ 9 < d) : Api w0 m a0 a' w :=
  ⟨hp.size.trans h.tsz, hp.df.trans h.df, by rw [hp.ne (by omega)]; exact h.e7, by rw [hp.ne (by omega)]; exact h.e8, by rw [hp.ne (by omega)]; exact h.e9, h.size, h.os, h.tape, h.output, h.old⟩
structure Sq (w0 : World) (k nI : Nat) (bs : Nat → Nat) (X : Nat → Nat → Bool) (w : World) : Prop where
  mat : Mat w w0.heap.size k nI 26 4 bs X
  new : ∀ i, i < nI → w0.heap.size < bs i
theorem Mat.hdr' {w : World} {b n nI : Nat} {tR tB : TypeId} {bs : Nat → Nat} {X : Nat → Nat → Bool} (h : Mat w b n nI tR tB bs X) {i : Nat} (hi : i < nI) : w.cell? ⟨b, 0 + i * 1, none⟩ = some (.slice (some ⟨bs i, 0, none⟩) n n) := by
  rw [show 0 + i * 1 = i by omega]; exact h.hdr hi
theorem Mat.bit' {w : World} {b n nI : Nat} {tR tB : TypeId} {bs : Nat → Nat} {X : Nat → Nat → Bool} (h : Mat w b n nI tR tB bs X) {i j : Nat} (hi : i < nI) (hj : j < n) : w.cell? ⟨bs i, 0 + j * 1, none⟩ = some (.bool (X i j)) := by
  rw [show 0 + j * 1 = j by omega]; exact h.bit hi hj

/-- a region whose order is drawn: all of it -/
theorem drawn_wp {P : Program} {ops : Array Oper} {D n id : Nat} {vals : Nat → Value} {a : Act} {w w1 : World} {Q : Exit → Act → World → Prop} {op : Op} {deps : List Nat} (hm : P.follows .mixedOrders = true) (hn : ops.size = n + 1) (hD : D + n ≤ a.tmps.size)
    (hv : ∀ i, i < n → DOp P ops D i vals a { w with drawn := w.drawn + 1 }) (hN : DIs ops n op none deps none) (hdeps : ∀ i, i < n → i ∈ deps)
    (hx : ∀ a' : Act, a'.tmps.size = a.tmps.size → (∀ t : Nat, t < D ∨ D + ops.size ≤ t → a'.eval (.tmp t) = a.eval (.tmp t)) → (∀ j, j < n → a'.eval (.tmp (D + j)) = vals j) → ∀ o : Oper, o.op = op → (execOp a'.eval o).run P { w with drawn := w.drawn + 1 } = .ok .skip w1)
    (hQ : ∀ a' : Act, a'.tmps.size = a.tmps.size → a'.defers = a.defers → (∀ t : Nat, t < D ∨ D + ops.size ≤ t → a'.eval (.tmp t) = a.eval (.tmp t)) → Q .normal a' w1) : (Code.region id ops true).wp P Q a w := by
  obtain ⟨oN, h1, h2, h3, h4, h5, h6⟩ := hN
  refine wp_region_any hm ?_
  refine drawn_reg hn hD hv h1 h3 h4 (fun i hi => ?_) (fun e he => by simpa using List.all_eq_true.1 h5 e he) (fun a' q1 q2 q3 => hx a' q1 q2 q3 oN h2) hQ ops.size _ a (by simp; exact hn) ?_ (fun i hi => ?_) ⟨rfl, rfl, fun _ _ => rfl, fun j hj hl => ?_⟩ ?_
  · obtain ⟨e, he, hb⟩ := List.any_eq_true.1 (List.all_eq_true.1 h6 i (hdeps i hi))
    simp only [Bool.and_eq_true, decide_eq_true_eq] at hb
    exact ⟨e, he, hb.1, hb.2⟩
  · rw [Array.getD_eq_getD_getElem?, Array.getElem?_replicate, if_pos (by omega)]; rfl
  · rw [Array.getD_eq_getD_getElem?, Array.getD_eq_getD_getElem?, Array.getElem?_replicate, if_pos (by omega)]; rfl
  · rw [Array.getD_eq_getD_getElem?, Array.getElem?_replicate] at hl
    split at hl <;> cases hl
  · simp
section
variable {P : Program} {fs : Array Field} {f1 f2 : Field} {iR iB : TypeInfo} {zR zB : Value} {w0 : World} {m : ApM} {a0 a : Act} {w : World} {ops : Array Oper} {X : Nat → Nat → Bool} {bs : Nat → Nat}
def vals17 (m : ApM) (b : Nat) (bs : Nat → Nat) (i j : Nat) : Nat → Value
  | 0 => (Value.slice (some ⟨b, 0, none⟩) m.k m.k)
  | 1 => (Value.int .i64 ((i : Nat) : Int))
  | 2 => (Value.pointer (some ⟨b, 0 + i * 1, none⟩))
  | 3 => (Value.slice (some ⟨bs (i), 0, none⟩) m.k m.k)
  | 4 => (Value.int .i64 ((j : Nat) : Int))
  | 5 => (Value.pointer (some ⟨m.bd, 0 + 257, none⟩))
  | 6 => (Value.slice (some ⟨m.be, m.oe, none⟩) m.k m.eC)
  | 7 => (Value.int .i64 ((i : Nat) : Int))
  | 8 => (Value.pointer (some ⟨m.be, m.oe + i * 1, none⟩))
  | 9 => (Value.bool (m.E i))
  | 10 => (Value.pointer (some ⟨m.bd, 0 + 257, none⟩))
  | 11 => (Value.slice (some ⟨m.be, m.oe, none⟩) m.k m.eC)
  | 12 => (Value.int .i64 ((j : Nat) : Int))
  | 13 => (Value.pointer (some ⟨m.be, m.oe + j * 1, none⟩))
  | 14 => (Value.bool (m.E j))
  | 15 => (Value.bool (m.E i != m.E j))
  | 16 => (Value.pointer (some ⟨bs (i), 0 + j * 1, none⟩))
  | _ => undef
theorem op17_0 (T : ApT P fs f1 f2 iR iB zR zB) (hD : ApD w0 m) (hA : Api w0 m a0 a w) (h0 : 0 < m.k) (hsz : 152 ≤ a.tmps.size) {i j nI : Nat} (hi : i < m.k) (hj : j < m.k) (hiI : i < nI) {b : Nat} (hM : Mat w b m.k nI 26 4 bs X) (e7 : a.eval (.tmp 7) = (Value.pointer (some ⟨m.bd, 0, none⟩))) (e9 : a.eval (.tmp 9) = (Value.slice (some ⟨b, 0, none⟩) m.k m.k)) (e10 : a.eval (.tmp 10) = (Value.int .i64 ((i : Nat) : Int))) (e11 : a.eval (.tmp 11) = (Value.int .i64 ((j : Nat) : Int))) (R : R17 ops) : DOp P ops 51 0 (vals17 m b bs i j) a w := by
  refine R.p0.dop (D := 51) fun a' hs ho hd o e => ?_
  have i0 : a'.eval (.tmp 9) = (Value.slice (some ⟨b, 0, none⟩) m.k m.k) := (ho 9 (.inl (by decide))).trans e9
  show (execOp a'.eval o).run P w = .ok (.value (Value.slice (some ⟨b, 0, none⟩) m.k m.k)) w
  exact (ex_move e).trans (by rw [i0])
theorem op17_1 (T : ApT P fs f1 f2 iR iB zR zB) (hD : ApD w0 m) (hA : Api w0 m a0 a w) (h0 : 0 < m.k) (hsz : 152 ≤ a.tmps.size) {i j nI : Nat} (hi : i < m.k) (hj : j < m.k) (hiI : i < nI) {b : Nat} (hM : Mat w b m.k nI 26 4 bs X) (e7 : a.eval (.tmp 7) = (Value.pointer (some ⟨m.bd, 0, none⟩))) (e9 : a.eval (.tmp 9) = (Value.slice (some ⟨b, 0, none⟩) m.k m.k)) (e10 : a.eval (.tmp 10) = (Value.int .i64 ((i : Nat) : Int))) (e11 : a.eval (.tmp 11) = (Value.int .i64 ((j : Nat) : Int))) (R : R17 ops) : DOp P ops 51 1 (vals17 m b bs i j) a w := by
  refine R.p1.dop (D := 51) fun a' hs ho hd o e => ?_
  have i0 : a'.eval (.tmp 10) = (Value.int .i64 ((i : Nat) : Int)) := (ho 10 (.inl (by decide))).trans e10
  show (execOp a'.eval o).run P w = .ok (.value (Value.int .i64 ((i : Nat) : Int))) w
  exact (ex_move e).trans (by rw [i0])
theorem op17_2 (T : ApT P fs f1 f2 iR iB zR zB) (hD : ApD w0 m) (hA : Api w0 m a0 a w) (h0 : 0 < m.k) (hsz : 152 ≤ a.tmps.size) {i j nI : Nat} (hi : i < m.k) (hj : j < m.k) (hiI : i < nI) {b : Nat} (hM : Mat w b m.k nI 26 4 bs X) (e7 : a.eval (.tmp 7) = (Value.pointer (some ⟨m.bd, 0, none⟩))) (e9 : a.eval (.tmp 9) = (Value.slice (some ⟨b, 0, none⟩) m.k m.k)) (e10 : a.eval (.tmp 10) = (Value.int .i64 ((i : Nat) : Int))) (e11 : a.eval (.tmp 11) = (Value.int .i64 ((j : Nat) : Int))) (R : R17 ops) : DOp P ops 51 2 (vals17 m b bs i j) a w := by
  refine R.p2.dop (D := 51) fun a' hs ho hd o e => ?_
  have i0 : a'.eval (.tmp 51) = (Value.slice (some ⟨b, 0, none⟩) m.k m.k) := hd 0 (by decide)
  have i1 : a'.eval (.tmp 52) = (Value.int .i64 ((i : Nat) : Int)) := hd 1 (by decide)
  show (execOp a'.eval o).run P w = .ok (.value (Value.pointer (some ⟨b, 0 + i * 1, none⟩))) w
  exact ex_index e T.u42 T.c26 hi i0 i1
theorem op17_3 (T : ApT P fs f1 f2 iR iB zR zB) (hD : ApD w0 m) (hA : Api w0 m a0 a w) (h0 : 0 < m.k) (hsz : 152 ≤ a.tmps.size) {i j nI : Nat} (hi : i < m.k) (hj : j < m.k) (hiI : i < nI) {b : Nat} (hM : Mat w b m.k nI 26 4 bs X) (e7 : a.eval (.tmp 7) = (Value.pointer (some ⟨m.bd, 0, none⟩))) (e9 : a.eval (.tmp 9) = (Value.slice (some ⟨b, 0, none⟩) m.k m.k)) (e10 : a.eval (.tmp 10) = (Value.int .i64 ((i : Nat) : Int))) (e11 : a.eval (.tmp 11) = (Value.int .i64 ((j : Nat) : Int))) (R : R17 ops) : DOp P ops 51 3 (vals17 m b bs i j) a w := by
  refine R.p3.dop (D := 51) fun a' hs ho hd o e => ?_
  have i0 : a'.eval (.tmp 53) = (Value.pointer (some ⟨b, 0 + i * 1, none⟩)) := hd 2 (by decide)
  show (execOp a'.eval o).run P w = .ok (.value (Value.slice (some ⟨bs (i), 0, none⟩) m.k m.k)) w
  exact ex_load e i0 T.c26 T.a26 (hM.hdr' hiI)
theorem op17_4 (T : ApT P fs f1 f2 iR iB zR zB) (hD : ApD w0 m) (hA : Api w0 m a0 a w) (h0 : 0 < m.k) (hsz : 152 ≤ a.tmps.size) {i j nI : Nat} (hi : i < m.k) (hj : j < m.k) (hiI : i < nI) {b : Nat} (hM : Mat w b m.k nI 26 4 bs X) (e7 : a.eval (.tmp 7) = (Value.pointer (some ⟨m.bd, 0, none⟩))) (e9 : a.eval (.tmp 9) = (Value.slice (some ⟨b, 0, none⟩) m.k m.k)) (e10 : a.eval (.tmp 10) = (Value.int .i64 ((i : Nat) : Int))) (e11 : a.eval (.tmp 11) = (Value.int .i64 ((j : Nat) : Int))) (R : R17 ops) : DOp P ops 51 4 (vals17 m b bs i j) a w := by
  refine R.p4.dop (D := 51) fun a' hs ho hd o e => ?_
  have i0 : a'.eval (.tmp 11) = (Value.int .i64 ((j : Nat) : Int)) := (ho 11 (.inl (by decide))).trans e11
  show (execOp a'.eval o).run P w = .ok (.value (Value.int .i64 ((j : Nat) : Int))) w
  exact (ex_move e).trans (by rw [i0])
theorem op17_5 (T : ApT P fs f1 f2 iR iB zR zB) (hD : ApD w0 m) (hA : Api w0 m a0 a w) (h0 : 0 < m.k) (hsz : 152 ≤ a.tmps.size) {i j nI : Nat} (hi : i < m.k) (hj : j < m.k) (hiI : i < nI) {b : Nat} (hM : Mat w b m.k nI 26 4 bs X) (e7 : a.eval (.tmp 7) = (Value.pointer (some ⟨m.bd, 0, none⟩))) (e9 : a.eval (.tmp 9) = (Value.slice (some ⟨b, 0, none⟩) m.k m.k)) (e10 : a.eval (.tmp 10) = (Value.int .i64 ((i : Nat) : Int))) (e11 : a.eval (.tmp 11) = (Value.int .i64 ((j : Nat) : Int))) (R : R17 ops) : DOp P ops 51 5 (vals17 m b bs i j) a w := by
  refine R.p5.dop (D := 51) fun a' hs ho hd o e => ?_
  have i0 : a'.eval (.tmp 7) = (Value.pointer (some ⟨m.bd, 0, none⟩)) := (ho 7 (.inl (by decide))).trans e7
  show (execOp a'.eval o).run P w = .ok (.value (Value.pointer (some ⟨m.bd, 0 + 257, none⟩))) w
  exact (ex_field e T.hD T.h2 T.c2 i0).trans (by rw [T.o2])
theorem op17_6 (T : ApT P fs f1 f2 iR iB zR zB) (hD : ApD w0 m) (hA : Api w0 m a0 a w) (h0 : 0 < m.k) (hsz : 152 ≤ a.tmps.size) {i j nI : Nat} (hi : i < m.k) (hj : j < m.k) (hiI : i < nI) {b : Nat} (hM : Mat w b m.k nI 26 4 bs X) (e7 : a.eval (.tmp 7) = (Value.pointer (some ⟨m.bd, 0, none⟩))) (e9 : a.eval (.tmp 9) = (Value.slice (some ⟨b, 0, none⟩) m.k m.k)) (e10 : a.eval (.tmp 10) = (Value.int .i64 ((i : Nat) : Int))) (e11 : a.eval (.tmp 11) = (Value.int .i64 ((j : Nat) : Int))) (R : R17 ops) : DOp P ops 51 6 (vals17 m b bs i j) a w := by
  refine R.p6.dop (D := 51) fun a' hs ho hd o e => ?_
  have i0 : a'.eval (.tmp 56) = (Value.pointer (some ⟨m.bd, 0 + 257, none⟩)) := hd 5 (by decide)
  show (execOp a'.eval o).run P w = .ok (.value (Value.slice (some ⟨m.be, m.oe, none⟩) m.k m.eC)) w
  exact ex_load e i0 T.c26 T.a26 (hA.cell (hD.ends h0) (Nat.zero_add _))
theorem op17_7 (T : ApT P fs f1 f2 iR iB zR zB) (hD : ApD w0 m) (hA : Api w0 m a0 a w) (h0 : 0 < m.k) (hsz : 152 ≤ a.tmps.size) {i j nI : Nat} (hi : i < m.k) (hj : j < m.k) (hiI : i < nI) {b : Nat} (hM : Mat w b m.k nI 26 4 bs X) (e7 : a.eval (.tmp 7) = (Value.pointer (some ⟨m.bd, 0, none⟩))) (e9 : a.eval (.tmp 9) = (Value.slice (some ⟨b, 0, none⟩) m.k m.k)) (e10 : a.eval (.tmp 10) = (Value.int .i64 ((i : Nat) : Int))) (e11 : a.eval (.tmp 11) = (Value.int .i64 ((j : Nat) : Int))) (R : R17 ops) : DOp P ops 51 7 (vals17 m b bs i j) a w := by
  refine R.p7.dop (D := 51) fun a' hs ho hd o e => ?_
  have i0 : a'.eval (.tmp 10) = (Value.int .i64 ((i : Nat) : Int)) := (ho 10 (.inl (by decide))).trans e10
  show (execOp a'.eval o).run P w = .ok (.value (Value.int .i64 ((i : Nat) : Int))) w
  exact (ex_move e).trans (by rw [i0])
theorem op17_8 (T : ApT P fs f1 f2 iR iB zR zB) (hD : ApD w0 m) (hA : Api w0 m a0 a w) (h0 : 0 < m.k) (hsz : 152 ≤ a.tmps.size) {i j nI : Nat} (hi : i < m.k) (hj : j < m.k) (hiI : i < nI) {b : Nat} (hM : Mat w b m.k nI 26 4 bs X) (e7 : a.eval (.tmp 7) = (Value.pointer (some ⟨m.bd, 0, none⟩))) (e9 : a.eval (.tmp 9) = (Value.slice (some ⟨b, 0, none⟩) m.k m.k)) (e10 : a.eval (.tmp 10) = (Value.int .i64 ((i : Nat) : Int))) (e11 : a.eval (.tmp 11) = (Value.int .i64 ((j : Nat) : Int))) (R : R17 ops) : DOp P ops 51 8 (vals17 m b bs i j) a w := by
  refine R.p8.dop (D := 51) fun a' hs ho hd o e => ?_
  have i0 : a'.eval (.tmp 57) = (Value.slice (some ⟨m.be, m.oe, none⟩) m.k m.eC) := hd 6 (by decide)
  have i1 : a'.eval (.tmp 58) = (Value.int .i64 ((i : Nat) : Int)) := hd 7 (by decide)
  show (execOp a'.eval o).run P w = .ok (.value (Value.pointer (some ⟨m.be, m.oe + i * 1, none⟩))) w
  exact ex_index e T.u26 T.c4 hi i0 i1
theorem op17_9 (T : ApT P fs f1 f2 iR iB zR zB) (hD : ApD w0 m) (hA : Api w0 m a0 a w) (h0 : 0 < m.k) (hsz : 152 ≤ a.tmps.size) {i j nI : Nat} (hi : i < m.k) (hj : j < m.k) (hiI : i < nI) {b : Nat} (hM : Mat w b m.k nI 26 4 bs X) (e7 : a.eval (.tmp 7) = (Value.pointer (some ⟨m.bd, 0, none⟩))) (e9 : a.eval (.tmp 9) = (Value.slice (some ⟨b, 0, none⟩) m.k m.k)) (e10 : a.eval (.tmp 10) = (Value.int .i64 ((i : Nat) : Int))) (e11 : a.eval (.tmp 11) = (Value.int .i64 ((j : Nat) : Int))) (R : R17 ops) : DOp P ops 51 9 (vals17 m b bs i j) a w := by
  refine R.p9.dop (D := 51) fun a' hs ho hd o e => ?_
  have i0 : a'.eval (.tmp 59) = (Value.pointer (some ⟨m.be, m.oe + i * 1, none⟩)) := hd 8 (by decide)
  show (execOp a'.eval o).run P w = .ok (.value (Value.bool (m.E i))) w
  exact ex_load e i0 T.c4 T.a4 (hA.cell (hD.bit i hi) (by rw [Nat.mul_one]))
theorem op17_10 (T : ApT P fs f1 f2 iR iB zR zB) (hD : ApD w0 m) (hA : Api w0 m a0 a w) (h0 : 0 < m.k) (hsz : 152 ≤ a.tmps.size) {i j nI : Nat} (hi : i < m.k) (hj : j < m.k) (hiI : i < nI) {b : Nat} (hM : Mat w b m.k nI 26 4 bs X) (e7 : a.eval (.tmp 7) = (Value.pointer (some ⟨m.bd, 0, none⟩))) (e9 : a.eval (.tmp 9) = (Value.slice (some ⟨b, 0, none⟩) m.k m.k)) (e10 : a.eval (.tmp 10) = (Value.int .i64 ((i : Nat) : Int))) (e11 : a.eval (.tmp 11) = (Value.int .i64 ((j : Nat) : Int))) (R : R17 ops) : DOp P ops 51 10 (vals17 m b bs i j) a w := by
  refine R.p10.dop (D := 51) fun a' hs ho hd o e => ?_
  have i0 : a'.eval (.tmp 7) = (Value.pointer (some ⟨m.bd, 0, none⟩)) := (ho 7 (.inl (by decide))).trans e7
  show (execOp a'.eval o).run P w = .ok (.value (Value.pointer (some ⟨m.bd, 0 + 257, none⟩))) w
  exact (ex_field e T.hD T.h2 T.c2 i0).trans (by rw [T.o2])
theorem op17_11 (T : ApT P fs f1 f2 iR iB zR zB) (hD : ApD w0 m) (hA : Api w0 m a0 a w) (h0 : 0 < m.k) (hsz : 152 ≤ a.tmps.size) {i j nI : Nat} (hi : i < m.k) (hj : j < m.k) (hiI : i < nI) {b : Nat} (hM : Mat w b m.k nI 26 4 bs X) (e7 : a.eval (.tmp 7) = (Value.pointer (some ⟨m.bd, 0, none⟩))) (e9 : a.eval (.tmp 9) = (Value.slice (some ⟨b, 0, none⟩) m.k m.k)) (e10 : a.eval (.tmp 10) = (Value.int .i64 ((i : Nat) : Int))) (e11 : a.eval (.tmp 11) = (Value.int .i64 ((j : Nat) : Int))) (R : R17 ops) : DOp P ops 51 11 (vals17 m b bs i j) a w := by
  refine R.p11.dop (D := 51) fun a' hs ho hd o e => ?_
  have i0 : a'.eval (.tmp 61) = (Value.pointer (some ⟨m.bd, 0 + 257, none⟩)) := hd 10 (by decide)
  show (execOp a'.eval o).run P w = .ok (.value (Value.slice (some ⟨m.be, m.oe, none⟩) m.k m.eC)) w
  exact ex_load e i0 T.c26 T.a26 (hA.cell (hD.ends h0) (Nat.zero_add _))
theorem op17_12 (T : ApT P fs f1 f2 iR iB zR zB) (hD : ApD w0 m) (hA : Api w0 m a0 a w) (h0 : 0 < m.k) (hsz : 152 ≤ a.tmps.size) {i j nI : Nat} (hi : i < m.k) (hj : j < m.k) (hiI : i < nI) {b : Nat} (hM : Mat w b m.k nI 26 4 bs X) (e7 : a.eval (.tmp 7) = (Value.pointer (some ⟨m.bd, 0, none⟩))) (e9 : a.eval (.tmp 9) = (Value.slice (some ⟨b, 0, none⟩) m.k m.k)) (e10 : a.eval (.tmp 10) = (Value.int .i64 ((i : Nat) : Int))) (e11 : a.eval (.tmp 11) = (Value.int .i64 ((j : Nat) : Int))) (R : R17 ops) : DOp P ops 51 12 (vals17 m b bs i j) a w := by
  refine R.p12.dop (D := 51) fun a' hs ho hd o e => ?_
  have i0 : a'.eval (.tmp 11) = (Value.int .i64 ((j : Nat) : Int)) := (ho 11 (.inl (by decide))).trans e11
  show (execOp a'.eval o).run P w = .ok (.value (Value.int .i64 ((j : Nat) : Int))) w
  exact (ex_move e).trans (by rw [i0])
theorem op17_13 (T : ApT P fs f1 f2 iR iB zR zB) (hD : ApD w0 m) (hA : Api w0 m a0 a w) (h0 : 0 < m.k) (hsz : 152 ≤ a.tmps.size) {i j nI : Nat} (hi : i < m.k) (hj : j < m.k) (hiI : i < nI) {b : Nat} (hM : Mat w b m.k nI 26 4 bs X) (e7 : a.eval (.tmp 7) = (Value.pointer (some ⟨m.bd, 0, none⟩))) (e9 : a.eval (.tmp 9) = (Value.slice (some ⟨b, 0, none⟩) m.k m.k)) (e10 : a.eval (.tmp 10) = (Value.int .i64 ((i : Nat) : Int))) (e11 : a.eval (.tmp 11) = (Value.int .i64 ((j : Nat) : Int))) (R : R17 ops) : DOp P ops 51 13 (vals17 m b bs i j) a w := by
  refine R.p13.dop (D := 51) fun a' hs ho hd o e => ?_
  have i0 : a'.eval (.tmp 62) = (Value.slice (some ⟨m.be, m.oe, none⟩) m.k m.eC) := hd 11 (by decide)
  have i1 : a'.eval (.tmp 63) = (Value.int .i64 ((j : Nat) : Int)) := hd 12 (by decide)
  show (execOp a'.eval o).run P w = .ok (.value (Value.pointer (some ⟨m.be, m.oe + j * 1, none⟩))) w
  exact ex_index e T.u26 T.c4 hj i0 i1
theorem op17_14 (T : ApT P fs f1 f2 iR iB zR zB) (hD : ApD w0 m) (hA : Api w0 m a0 a w) (h0 : 0 < m.k) (hsz : 152 ≤ a.tmps.size) {i j nI : Nat} (hi : i < m.k) (hj : j < m.k) (hiI : i < nI) {b : Nat} (hM : Mat w b m.k nI 26 4 bs X) (e7 : a.eval (.tmp 7) = (Value.pointer (some ⟨m.bd, 0, none⟩))) (e9 : a.eval (.tmp 9) = (Value.slice (some ⟨b, 0, none⟩) m.k m.k)) (e10 : a.eval (.tmp 10) = (Value.int .i64 ((i : Nat) : Int))) (e11 : a.eval (.tmp 11) = (Value.int .i64 ((j : Nat) : Int))) (R : R17 ops) : DOp P ops 51 14 (vals17 m b bs i j) a w := by
  refine R.p14.dop (D := 51) fun a' hs ho hd o e => ?_
  have i0 : a'.eval (.tmp 64) = (Value.pointer (some ⟨m.be, m.oe + j * 1, none⟩)) := hd 13 (by decide)
  show (execOp a'.eval o).run P w = .ok (.value (Value.bool (m.E j))) w
  exact ex_load e i0 T.c4 T.a4 (hA.cell (hD.bit j hj) (by rw [Nat.mul_one]))
theorem op17_15 (T : ApT P fs f1 f2 iR iB zR zB) (hD : ApD w0 m) (hA : Api w0 m a0 a w) (h0 : 0 < m.k) (hsz : 152 ≤ a.tmps.size) {i j nI : Nat} (hi : i < m.k) (hj : j < m.k) (hiI : i < nI) {b : Nat} (hM : Mat w b m.k nI 26 4 bs X) (e7 : a.eval (.tmp 7) = (Value.pointer (some ⟨m.bd, 0, none⟩))) (e9 : a.eval (.tmp 9) = (Value.slice (some ⟨b, 0, none⟩) m.k m.k)) (e10 : a.eval (.tmp 10) = (Value.int .i64 ((i : Nat) : Int))) (e11 : a.eval (.tmp 11) = (Value.int .i64 ((j : Nat) : Int))) (R : R17 ops) : DOp P ops 51 15 (vals17 m b bs i j) a w := by
  refine R.p15.dop (D := 51) fun a' hs ho hd o e => ?_
  have i0 : a'.eval (.tmp 60) = (Value.bool (m.E i)) := hd 9 (by decide)
  have i1 : a'.eval (.tmp 65) = (Value.bool (m.E j)) := hd 14 (by decide)
  show (execOp a'.eval o).run P w = .ok (.value (Value.bool (m.E i != m.E j))) w
  exact ex_neqb e T.u4 i0 i1
theorem op17_16 (T : ApT P fs f1 f2 iR iB zR zB) (hD : ApD w0 m) (hA : Api w0 m a0 a w) (h0 : 0 < m.k) (hsz : 152 ≤ a.tmps.size) {i j nI : Nat} (hi : i < m.k) (hj : j < m.k) (hiI : i < nI) {b : Nat} (hM : Mat w b m.k nI 26 4 bs X) (e7 : a.eval (.tmp 7) = (Value.pointer (some ⟨m.bd, 0, none⟩))) (e9 : a.eval (.tmp 9) = (Value.slice (some ⟨b, 0, none⟩) m.k m.k)) (e10 : a.eval (.tmp 10) = (Value.int .i64 ((i : Nat) : Int))) (e11 : a.eval (.tmp 11) = (Value.int .i64 ((j : Nat) : Int))) (R : R17 ops) : DOp P ops 51 16 (vals17 m b bs i j) a w := by
  refine R.p16.dop (D := 51) fun a' hs ho hd o e => ?_
  have i0 : a'.eval (.tmp 54) = (Value.slice (some ⟨bs (i), 0, none⟩) m.k m.k) := hd 3 (by decide)
  have i1 : a'.eval (.tmp 55) = (Value.int .i64 ((j : Nat) : Int)) := hd 4 (by decide)
  show (execOp a'.eval o).run P w = .ok (.value (Value.pointer (some ⟨bs (i), 0 + j * 1, none⟩))) w
  exact ex_index e T.u26 T.c4 hj i0 i1
def vals30 (m : ApM) (b : Nat) (bs : Nat → Nat) (X : Nat → Nat → Bool) (bx : Bool) (i j x : Nat) : Nat → Value
  | 0 => (Value.slice (some ⟨b, 0, none⟩) m.k m.k)
  | 1 => (Value.int .i64 ((i : Nat) : Int))
  | 2 => (Value.pointer (some ⟨b, 0 + i * 1, none⟩))
  | 3 => (Value.slice (some ⟨bs (i), 0, none⟩) m.k m.k)
  | 4 => (Value.int .i64 ((j : Nat) : Int))
  | 5 => (Value.slice (some ⟨b, 0, none⟩) m.k m.k)
  | 6 => (Value.int .i64 ((i : Nat) : Int))
  | 7 => (Value.pointer (some ⟨b, 0 + i * 1, none⟩))
  | 8 => (Value.slice (some ⟨bs (i), 0, none⟩) m.k m.k)
  | 9 => (Value.int .i64 ((j : Nat) : Int))
  | 10 => (Value.pointer (some ⟨bs (i), 0 + j * 1, none⟩))
  | 11 => (Value.bool bx)
  | 12 => (Value.bool bx)
  | 13 => bif bx then undef else (Value.slice (some ⟨b, 0, none⟩) m.k m.k)
  | 14 => bif bx then undef else (Value.pointer (some ⟨m.bd, 0 + 256, none⟩))
  | 15 => bif bx then undef else (Value.slice (some ⟨m.br, m.ob, none⟩) m.k m.nC)
  | 16 => bif bx then undef else (Value.int .i64 ((i : Nat) : Int))
  | 17 => bif bx then undef else (Value.pointer (some ⟨m.br, m.ob + i * 1, none⟩))
  | 18 => bif bx then undef else (Value.slice (some ⟨m.rb i, m.ro i, none⟩) m.L (m.rC i))
  | 19 => bif bx then undef else (Value.int .i64 ((x : Nat) : Int))
  | 20 => bif bx then undef else (Value.pointer (some ⟨m.rb i, m.ro i + x * 1, none⟩))
  | 21 => bif bx then undef else (Value.int .i64 ((m.nx i x : Nat) : Int))
  | 22 => bif bx then undef else (Value.pointer (some ⟨b, 0 + m.nx i x * 1, none⟩))
  | 23 => bif bx then undef else (Value.slice (some ⟨bs (m.nx i x), 0, none⟩) m.k m.k)
  | 24 => bif bx then undef else (Value.pointer (some ⟨m.bd, 0 + 256, none⟩))
  | 25 => bif bx then undef else (Value.slice (some ⟨m.br, m.ob, none⟩) m.k m.nC)
  | 26 => bif bx then undef else (Value.int .i64 ((j : Nat) : Int))
  | 27 => bif bx then undef else (Value.pointer (some ⟨m.br, m.ob + j * 1, none⟩))
  | 28 => bif bx then undef else (Value.slice (some ⟨m.rb j, m.ro j, none⟩) m.L (m.rC j))
  | 29 => bif bx then undef else (Value.int .i64 ((x : Nat) : Int))
  | 30 => bif bx then undef else (Value.pointer (some ⟨m.rb j, m.ro j + x * 1, none⟩))
  | 31 => bif bx then undef else (Value.int .i64 ((m.nx j x : Nat) : Int))
  | 32 => bif bx then undef else (Value.pointer (some ⟨bs (m.nx i x), 0 + m.nx j x * 1, none⟩))
  | 33 => bif bx then undef else (Value.bool (X (m.nx i x) (m.nx j x)))
  | 34 => (Value.bool (bx || X (m.nx i x) (m.nx j x)))
  | 35 => (Value.pointer (some ⟨bs (i), 0 + j * 1, none⟩))
  | _ => undef
theorem op30_0 (T : ApT P fs f1 f2 iR iB zR zB) (hD : ApD w0 m) (hA : Api w0 m a0 a w) (h0 : 0 < m.k) (hsz : 152 ≤ a.tmps.size) {i j x : Nat} {bx : Bool} (hi : i < m.k) (hj : j < m.k) (hx : x < m.L) (hL : 0 < m.L) (hbx : X i j = bx) {b : Nat} (hM : Mat w b m.k m.k 26 4 bs X) (e7 : a.eval (.tmp 7) = (Value.pointer (some ⟨m.bd, 0, none⟩))) (e9 : a.eval (.tmp 9) = (Value.slice (some ⟨b, 0, none⟩) m.k m.k)) (e13 : a.eval (.tmp 13) = (Value.int .i64 ((i : Nat) : Int))) (e14 : a.eval (.tmp 14) = (Value.int .i64 ((j : Nat) : Int))) (e15 : a.eval (.tmp 15) = (Value.int .i64 ((x : Nat) : Int))) (R : R30 ops) : DOp P ops 93 0 (vals30 m b bs X bx i j x) a w := by
  refine R.p0.dop (D := 93) fun a' hs ho hd o e => ?_
  have i0 : a'.eval (.tmp 9) = (Value.slice (some ⟨b, 0, none⟩) m.k m.k) := (ho 9 (.inl (by decide))).trans e9
  show (execOp a'.eval o).run P w = .ok (.value (Value.slice (some ⟨b, 0, none⟩) m.k m.k)) w
  exact (ex_move e).trans (by rw [i0])
theorem op30_1 (T : ApT P fs f1 f2 iR iB zR zB) (hD : ApD w0 m) (hA : Api w0 m a0 a w) (h0 : 0 < m.k) (hsz : 152 ≤ a.tmps.size) {i j x : Nat} {bx : Bool} (hi : i < m.k) (hj : j < m.k) (hx : x < m.L) (hL : 0 < m.L) (hbx : X i j = bx) {b : Nat} (hM : Mat w b m.k m.k 26 4 bs X) (e7 : a.eval (.tmp 7) = (Value.pointer (some ⟨m.bd, 0, none⟩))) (e9 : a.eval (.tmp 9) = (Value.slice (some ⟨b, 0, none⟩) m.k m.k)) (e13 : a.eval (.tmp 13) = (Value.int .i64 ((i : Nat) : Int))) (e14 : a.eval (.tmp 14) = (Value.int .i64 ((j : Nat) : Int))) (e15 : a.eval (.tmp 15) = (Value.int .i64 ((x : Nat) : Int))) (R : R30 ops) : DOp P ops 93 1 (vals30 m b bs X bx i j x) a w := by
  refine R.p1.dop (D := 93) fun a' hs ho hd o e => ?_
  have i0 : a'.eval (.tmp 13) = (Value.int .i64 ((i : Nat) : Int)) := (ho 13 (.inl (by decide))).trans e13
  show (execOp a'.eval o).run P w = .ok (.value (Value.int .i64 ((i : Nat) : Int))) w
  exact (ex_move e).trans (by rw [i0])
theorem op30_2 (T : ApT P fs f1 f2 iR iB zR zB) (hD : ApD w0 m) (hA : Api w0 m a0 a w) (h0 : 0 < m.k) (hsz : 152 ≤ a.tmps.size) {i j x : Nat} {bx : Bool} (hi : i < m.k) (hj : j < m.k) (hx : x < m.L) (hL : 0 < m.L) (hbx : X i j = bx) {b : Nat} (hM : Mat w b m.k m.k 26 4 bs X) (e7 : a.eval (.tmp 7) = (Value.pointer (some ⟨m.bd, 0, none⟩))) (e9 : a.eval (.tmp 9) = (Value.slice (some ⟨b, 0, none⟩) m.k m.k)) (e13 : a.eval (.tmp 13) = (Value.int .i64 ((i : Nat) : Int))) (e14 : a.eval (.tmp 14) = (Value.int .i64 ((j : Nat) : Int))) (e15 : a.eval (.tmp 15) = (Value.int .i64 ((x : Nat) : Int))) (R : R30 ops) : DOp P ops 93 2 (vals30 m b bs X bx i j x) a w := by
  refine R.p2.dop (D := 93) fun a' hs ho hd o e => ?_
  have i0 : a'.eval (.tmp 93) = (Value.slice (some ⟨b, 0, none⟩) m.k m.k) := hd 0 (by decide)
  have i1 : a'.eval (.tmp 94) = (Value.int .i64 ((i : Nat) : Int)) := hd 1 (by decide)
  show (execOp a'.eval o).run P w = .ok (.value (Value.pointer (some ⟨b, 0 + i * 1, none⟩))) w
  exact ex_index e T.u42 T.c26 hi i0 i1
theorem op30_3 (T : ApT P fs f1 f2 iR iB zR zB) (hD : ApD w0 m) (hA : Api w0 m a0 a w) (h0 : 0 < m.k) (hsz : 152 ≤ a.tmps.size) {i j x : Nat} {bx : Bool} (hi : i < m.k) (hj : j < m.k) (hx : x < m.L) (hL : 0 < m.L) (hbx : X i j = bx) {b : Nat} (hM : Mat w b m.k m.k 26 4 bs X) (e7 : a.eval (.tmp 7) = (Value.pointer (some ⟨m.bd, 0, none⟩))) (e9 : a.eval (.tmp 9) = (Value.slice (some ⟨b, 0, none⟩) m.k m.k)) (e13 : a.eval (.tmp 13) = (Value.int .i64 ((i : Nat) : Int))) (e14 : a.eval (.tmp 14) = (Value.int .i64 ((j : Nat) : Int))) (e15 : a.eval (.tmp 15) = (Value.int .i64 ((x : Nat) : Int))) (R : R30 ops) : DOp P ops 93 3 (vals30 m b bs X bx i j x) a w := by
  refine R.p3.dop (D := 93) fun a' hs ho hd o e => ?_
  have i0 : a'.eval (.tmp 95) = (Value.pointer (some ⟨b, 0 + i * 1, none⟩)) := hd 2 (by decide)
  show (execOp a'.eval o).run P w = .ok (.value (Value.slice (some ⟨bs (i), 0, none⟩) m.k m.k)) w
  exact ex_load e i0 T.c26 T.a26 (hM.hdr' hi)
theorem op30_4 (T : ApT P fs f1 f2 iR iB zR zB) (hD : ApD w0 m) (hA : Api w0 m a0 a w) (h0 : 0 < m.k) (hsz : 152 ≤ a.tmps.size) {i j x : Nat} {bx : Bool} (hi : i < m.k) (hj : j < m.k) (hx : x < m.L) (hL : 0 < m.L) (hbx : X i j = bx) {b : Nat} (hM : Mat w b m.k m.k 26 4 bs X) (e7 : a.eval (.tmp 7) = (Value.pointer (some ⟨m.bd, 0, none⟩))) (e9 : a.eval (.tmp 9) = (Value.slice (some ⟨b, 0, none⟩) m.k m.k)) (e13 : a.eval (.tmp 13) = (Value.int .i64 ((i : Nat) : Int))) (e14 : a.eval (.tmp 14) = (Value.int .i64 ((j : Nat) : Int))) (e15 : a.eval (.tmp 15) = (Value.int .i64 ((x : Nat) : Int))) (R : R30 ops) : DOp P ops 93 4 (vals30 m b bs X bx i j x) a w := by
  refine R.p4.dop (D := 93) fun a' hs ho hd o e => ?_
  have i0 : a'.eval (.tmp 14) = (Value.int .i64 ((j : Nat) : Int)) := (ho 14 (.inl (by decide))).trans e14
  show (execOp a'.eval o).run P w = .ok (.value (Value.int .i64 ((j : Nat) : Int))) w
  exact (ex_move e).trans (by rw [i0])
theorem op30_5 (T : ApT P fs f1 f2 iR iB zR zB) (hD : ApD w0 m) (hA : Api w0 m a0 a w) (h0 : 0 < m.k) (hsz : 152 ≤ a.tmps.size) {i j x : Nat} {bx : Bool} (hi : i < m.k) (hj : j < m.k) (hx : x < m.L) (hL : 0 < m.L) (hbx : X i j = bx) {b : Nat} (hM : Mat w b m.k m.k 26 4 bs X) (e7 : a.eval (.tmp 7) = (Value.pointer (some ⟨m.bd, 0, none⟩))) (e9 : a.eval (.tmp 9) = (Value.slice (some ⟨b, 0, none⟩) m.k m.k)) (e13 : a.eval (.tmp 13) = (Value.int .i64 ((i : Nat) : Int))) (e14 : a.eval (.tmp 14) = (Value.int .i64 ((j : Nat) : Int))) (e15 : a.eval (.tmp 15) = (Value.int .i64 ((x : Nat) : Int))) (R : R30 ops) : DOp P ops 93 5 (vals30 m b bs X bx i j x) a w := by
  refine R.p5.dop (D := 93) fun a' hs ho hd o e => ?_
  have i0 : a'.eval (.tmp 9) = (Value.slice (some ⟨b, 0, none⟩) m.k m.k) := (ho 9 (.inl (by decide))).trans e9
  show (execOp a'.eval o).run P w = .ok (.value (Value.slice (some ⟨b, 0, none⟩) m.k m.k)) w
  exact (ex_move e).trans (by rw [i0])
theorem op30_6 (T : ApT P fs f1 f2 iR iB zR zB) (hD : ApD w0 m) (hA : Api w0 m a0 a w) (h0 : 0 < m.k) (hsz : 152 ≤ a.tmps.size) {i j x : Nat} {bx : Bool} (hi : i < m.k) (hj : j < m.k) (hx : x < m.L) (hL : 0 < m.L) (hbx : X i j = bx) {b : Nat} (hM : Mat w b m.k m.k 26 4 bs X) (e7 : a.eval (.tmp 7) = (Value.pointer (some ⟨m.bd, 0, none⟩))) (e9 : a.eval (.tmp 9) = (Value.slice (some ⟨b, 0, none⟩) m.k m.k)) (e13 : a.eval (.tmp 13) = (Value.int .i64 ((i : Nat) : Int))) (e14 : a.eval (.tmp 14) = (Value.int .i64 ((j : Nat) : Int))) (e15 : a.eval (.tmp 15) = (Value.int .i64 ((x : Nat) : Int))) (R : R30 ops) : DOp P ops 93 6 (vals30 m b bs X bx i j x) a w := by
  refine R.p6.dop (D := 93) fun a' hs ho hd o e => ?_
  have i0 : a'.eval (.tmp 13) = (Value.int .i64 ((i : Nat) : Int)) := (ho 13 (.inl (by decide))).trans e13
  show (execOp a'.eval o).run P w = .ok (.value (Value.int .i64 ((i : Nat) : Int))) w
  exact (ex_move e).trans (by rw [i0])
theorem op30_7 (T : ApT P fs f1 f2 iR iB zR zB) (hD : ApD w0 m) (hA : Api w0 m a0 a w) (h0 : 0 < m.k) (hsz : 152 ≤ a.tmps.size) {i j x : Nat} {bx : Bool} (hi : i < m.k) (hj : j < m.k) (hx : x < m.L) (hL : 0 < m.L) (hbx : X i j = bx) {b : Nat} (hM : Mat w b m.k m.k 26 4 bs X) (e7 : a.eval (.tmp 7) = (Value.pointer (some ⟨m.bd, 0, none⟩))) (e9 : a.eval (.tmp 9) = (Value.slice (some ⟨b, 0, none⟩) m.k m.k)) (e13 : a.eval (.tmp 13) = (Value.int .i64 ((i : Nat) : Int))) (e14 : a.eval (.tmp 14) = (Value.int .i64 ((j : Nat) : Int))) (e15 : a.eval (.tmp 15) = (Value.int .i64 ((x : Nat) : Int))) (R : R30 ops) : DOp P ops 93 7 (vals30 m b bs X bx i j x) a w := by
  refine R.p7.dop (D := 93) fun a' hs ho hd o e => ?_
  have i0 : a'.eval (.tmp 98) = (Value.slice (some ⟨b, 0, none⟩) m.k m.k) := hd 5 (by decide)
  have i1 : a'.eval (.tmp 99) = (Value.int .i64 ((i : Nat) : Int)) := hd 6 (by decide)
  show (execOp a'.eval o).run P w = .ok (.value (Value.pointer (some ⟨b, 0 + i * 1, none⟩))) w
  exact ex_index e T.u42 T.c26 hi i0 i1
theorem op30_8 (T : ApT P fs f1 f2 iR iB zR zB) (hD : ApD w0 m) (hA : Api w0 m a0 a w) (h0 : 0 < m.k) (hsz : 152 ≤ a.tmps.size) {i j x : Nat} {bx : Bool} (hi : i < m.k) (hj : j < m.k) (hx : x < m.L) (hL : 0 < m.L) (hbx : X i j = bx) {b : Nat} (hM : Mat w b m.k m.k 26 4 bs X) (e7 : a.eval (.tmp 7) = (Value.pointer (some ⟨m.bd, 0, none⟩))) (e9 : a.eval (.tmp 9) = (Value.slice (some ⟨b, 0, none⟩) m.k m.k)) (e13 : a.eval (.tmp 13) = (Value.int .i64 ((i : Nat) : Int))) (e14 : a.eval (.tmp 14) = (Value.int .i64 ((j : Nat) : Int))) (e15 : a.eval (.tmp 15) = (Value.int .i64 ((x : Nat) : Int))) (R : R30 ops) : DOp P ops 93 8 (vals30 m b bs X bx i j x) a w := by
  refine R.p8.dop (D := 93) fun a' hs ho hd o e => ?_
  have i0 : a'.eval (.tmp 100) = (Value.pointer (some ⟨b, 0 + i * 1, none⟩)) := hd 7 (by decide)
  show (execOp a'.eval o).run P w = .ok (.value (Value.slice (some ⟨bs (i), 0, none⟩) m.k m.k)) w
  exact ex_load e i0 T.c26 T.a26 (hM.hdr' hi)
theorem op30_9 (T : ApT P fs f1 f2 iR iB zR zB) (hD : ApD w0 m) (hA : Api w0 m a0 a w) (h0 : 0 < m.k) (hsz : 152 ≤ a.tmps.size) {i j x : Nat} {bx : Bool} (hi : i < m.k) (hj : j < m.k) (hx : x < m.L) (hL : 0 < m.L) (hbx : X i j = bx) {b : Nat} (hM : Mat w b m.k m.k 26 4 bs X) (e7 : a.eval (.tmp 7) = (Value.pointer (some ⟨m.bd, 0, none⟩))) (e9 : a.eval (.tmp 9) = (Value.slice (some ⟨b, 0, none⟩) m.k m.k)) (e13 : a.eval (.tmp 13) = (Value.int .i64 ((i : Nat) : Int))) (e14 : a.eval (.tmp 14) = (Value.int .i64 ((j : Nat) : Int))) (e15 : a.eval (.tmp 15) = (Value.int .i64 ((x : Nat) : Int))) (R : R30 ops) : DOp P ops 93 9 (vals30 m b bs X bx i j x) a w := by
  refine R.p9.dop (D := 93) fun a' hs ho hd o e => ?_
  have i0 : a'.eval (.tmp 14) = (Value.int .i64 ((j : Nat) : Int)) := (ho 14 (.inl (by decide))).trans e14
  show (execOp a'.eval o).run P w = .ok (.value (Value.int .i64 ((j : Nat) : Int))) w
  exact (ex_move e).trans (by rw [i0])
theorem op30_10 (T : ApT P fs f1 f2 iR iB zR zB) (hD : ApD w0 m) (hA : Api w0 m a0 a w) (h0 : 0 < m.k) (hsz : 152 ≤ a.tmps.size) {i j x : Nat} {bx : Bool} (hi : i < m.k) (hj : j < m.k) (hx : x < m.L) (hL : 0 < m.L) (hbx : X i j = bx) {b : Nat} (hM : Mat w b m.k m.k 26 4 bs X) (e7 : a.eval (.tmp 7) = (Value.pointer (some ⟨m.bd, 0, none⟩))) (e9 : a.eval (.tmp 9) = (Value.slice (some ⟨b, 0, none⟩) m.k m.k)) (e13 : a.eval (.tmp 13) = (Value.int .i64 ((i : Nat) : Int))) (e14 : a.eval (.tmp 14) = (Value.int .i64 ((j : Nat) : Int))) (e15 : a.eval (.tmp 15) = (Value.int .i64 ((x : Nat) : Int))) (R : R30 ops) : DOp P ops 93 10 (vals30 m b bs X bx i j x) a w := by
  refine R.p10.dop (D := 93) fun a' hs ho hd o e => ?_
  have i0 : a'.eval (.tmp 101) = (Value.slice (some ⟨bs (i), 0, none⟩) m.k m.k) := hd 8 (by decide)
  have i1 : a'.eval (.tmp 102) = (Value.int .i64 ((j : Nat) : Int)) := hd 9 (by decide)
  show (execOp a'.eval o).run P w = .ok (.value (Value.pointer (some ⟨bs (i), 0 + j * 1, none⟩))) w
  exact ex_index e T.u26 T.c4 hj i0 i1
theorem op30_11 (T : ApT P fs f1 f2 iR iB zR zB) (hD : ApD w0 m) (hA : Api w0 m a0 a w) (h0 : 0 < m.k) (hsz : 152 ≤ a.tmps.size) {i j x : Nat} {bx : Bool} (hi : i < m.k) (hj : j < m.k) (hx : x < m.L) (hL : 0 < m.L) (hbx : X i j = bx) {b : Nat} (hM : Mat w b m.k m.k 26 4 bs X) (e7 : a.eval (.tmp 7) = (Value.pointer (some ⟨m.bd, 0, none⟩))) (e9 : a.eval (.tmp 9) = (Value.slice (some ⟨b, 0, none⟩) m.k m.k)) (e13 : a.eval (.tmp 13) = (Value.int .i64 ((i : Nat) : Int))) (e14 : a.eval (.tmp 14) = (Value.int .i64 ((j : Nat) : Int))) (e15 : a.eval (.tmp 15) = (Value.int .i64 ((x : Nat) : Int))) (R : R30 ops) : DOp P ops 93 11 (vals30 m b bs X bx i j x) a w := by
  refine R.p11.dop (D := 93) fun a' hs ho hd o e => ?_
  have i0 : a'.eval (.tmp 103) = (Value.pointer (some ⟨bs (i), 0 + j * 1, none⟩)) := hd 10 (by decide)
  show (execOp a'.eval o).run P w = .ok (.value (Value.bool bx)) w
  exact ex_load e i0 T.c4 T.a4 ((hM.bit' hi hj).trans (by rw [hbx]))
theorem op30_12 (T : ApT P fs f1 f2 iR iB zR zB) (hD : ApD w0 m) (hA : Api w0 m a0 a w) (h0 : 0 < m.k) (hsz : 152 ≤ a.tmps.size) {i j x : Nat} {bx : Bool} (hi : i < m.k) (hj : j < m.k) (hx : x < m.L) (hL : 0 < m.L) (hbx : X i j = bx) {b : Nat} (hM : Mat w b m.k m.k 26 4 bs X) (e7 : a.eval (.tmp 7) = (Value.pointer (some ⟨m.bd, 0, none⟩))) (e9 : a.eval (.tmp 9) = (Value.slice (some ⟨b, 0, none⟩) m.k m.k)) (e13 : a.eval (.tmp 13) = (Value.int .i64 ((i : Nat) : Int))) (e14 : a.eval (.tmp 14) = (Value.int .i64 ((j : Nat) : Int))) (e15 : a.eval (.tmp 15) = (Value.int .i64 ((x : Nat) : Int))) (R : R30 ops) : DOp P ops 93 12 (vals30 m b bs X bx i j x) a w := by
  refine R.p12.dop (D := 93) fun a' hs ho hd o e => ?_
  have i0 : a'.eval (.tmp 104) = (Value.bool bx) := hd 11 (by decide)
  show (execOp a'.eval o).run P w = .ok (.value (Value.bool bx)) w
  exact (ex_move e).trans (by rw [i0])
theorem op30_13 (T : ApT P fs f1 f2 iR iB zR zB) (hD : ApD w0 m) (hA : Api w0 m a0 a w) (h0 : 0 < m.k) (hsz : 152 ≤ a.tmps.size) {i j x : Nat} {bx : Bool} (hi : i < m.k) (hj : j < m.k) (hx : x < m.L) (hL : 0 < m.L) (hbx : X i j = bx) {b : Nat} (hM : Mat w b m.k m.k 26 4 bs X) (e7 : a.eval (.tmp 7) = (Value.pointer (some ⟨m.bd, 0, none⟩))) (e9 : a.eval (.tmp 9) = (Value.slice (some ⟨b, 0, none⟩) m.k m.k)) (e13 : a.eval (.tmp 13) = (Value.int .i64 ((i : Nat) : Int))) (e14 : a.eval (.tmp 14) = (Value.int .i64 ((j : Nat) : Int))) (e15 : a.eval (.tmp 15) = (Value.int .i64 ((x : Nat) : Int))) (R : R30 ops) : DOp P ops 93 13 (vals30 m b bs X bx i j x) a w := by
  cases bx with
  | true =>
    obtain ⟨og, g1, _, g3, _⟩ := R.p12
    exact R.p13.dopn (D := 93) (by decide) g1 g3 (by omega) (show _ = Value.bool true from rfl) (by decide) rfl
  | false =>
    obtain ⟨og, g1, _, g3, _⟩ := R.p12
    refine R.p13.dopg (D := 93) (by decide) g1 g3 (by omega) (show _ = Value.bool false from rfl) fun a' hs ho hd o e => ?_
    have i0 : a'.eval (.tmp 9) = (Value.slice (some ⟨b, 0, none⟩) m.k m.k) := (ho 9 (.inl (by decide))).trans e9
    show (execOp a'.eval o).run P w = .ok (.value (Value.slice (some ⟨b, 0, none⟩) m.k m.k)) w
    exact (ex_move e).trans (by rw [i0])
theorem op30_14 (T : ApT P fs f1 f2 iR iB zR zB) (hD : ApD w0 m) (hA : Api w0 m a0 a w) (h0 : 0 < m.k) (hsz : 152 ≤ a.tmps.size) {i j x : Nat} {bx : Bool} (hi : i < m.k) (hj : j < m.k) (hx : x < m.L) (hL : 0 < m.L) (hbx : X i j = bx) {b : Nat} (hM : Mat w b m.k m.k 26 4 bs X) (e7 : a.eval (.tmp 7) = (Value.pointer (some ⟨m.bd, 0, none⟩))) (e9 : a.eval (.tmp 9) = (Value.slice (some ⟨b, 0, none⟩) m.k m.k)) (e13 : a.eval (.tmp 13) = (Value.int .i64 ((i : Nat) : Int))) (e14 : a.eval (.tmp 14) = (Value.int .i64 ((j : Nat) : Int))) (e15 : a.eval (.tmp 15) = (Value.int .i64 ((x : Nat) : Int))) (R : R30 ops) : DOp P ops 93 14 (vals30 m b bs X bx i j x) a w := by
  cases bx with
  | true =>
    obtain ⟨og, g1, _, g3, _⟩ := R.p12
    exact R.p14.dopn (D := 93) (by decide) g1 g3 (by omega) (show _ = Value.bool true from rfl) (by decide) rfl
  | false =>
    obtain ⟨og, g1, _, g3, _⟩ := R.p12
    refine R.p14.dopg (D := 93) (by decide) g1 g3 (by omega) (show _ = Value.bool false from rfl) fun a' hs ho hd o e => ?_
    have i0 : a'.eval (.tmp 7) = (Value.pointer (some ⟨m.bd, 0, none⟩)) := (ho 7 (.inl (by decide))).trans e7
    show (execOp a'.eval o).run P w = .ok (.value (Value.pointer (some ⟨m.bd, 0 + 256, none⟩))) w
    exact (ex_field e T.hD T.h1 T.c1 i0).trans (by rw [T.o1])
theorem op30_15 (T : ApT P fs f1 f2 iR iB zR zB) (hD : ApD w0 m) (hA : Api w0 m a0 a w) (h0 : 0 < m.k) (hsz : 152 ≤ a.tmps.size) {i j x : Nat} {bx : Bool} (hi : i < m.k) (hj : j < m.k) (hx : x < m.L) (hL : 0 < m.L) (hbx : X i j = bx) {b : Nat} (hM : Mat w b m.k m.k 26 4 bs X) (e7 : a.eval (.tmp 7) = (Value.pointer (some ⟨m.bd, 0, none⟩))) (e9 : a.eval (.tmp 9) = (Value.slice (some ⟨b, 0, none⟩) m.k m.k)) (e13 : a.eval (.tmp 13) = (Value.int .i64 ((i : Nat) : Int))) (e14 : a.eval (.tmp 14) = (Value.int .i64 ((j : Nat) : Int))) (e15 : a.eval (.tmp 15) = (Value.int .i64 ((x : Nat) : Int))) (R : R30 ops) : DOp P ops 93 15 (vals30 m b bs X bx i j x) a w := by
  cases bx with
  | true =>
    obtain ⟨og, g1, _, g3, _⟩ := R.p12
    exact R.p15.dopn (D := 93) (by decide) g1 g3 (by omega) (show _ = Value.bool true from rfl) (by decide) rfl
  | false =>
    obtain ⟨og, g1, _, g3, _⟩ := R.p12
    refine R.p15.dopg (D := 93) (by decide) g1 g3 (by omega) (show _ = Value.bool false from rfl) fun a' hs ho hd o e => ?_
    have i0 : a'.eval (.tmp 107) = (Value.pointer (some ⟨m.bd, 0 + 256, none⟩)) := hd 14 (by decide)
    show (execOp a'.eval o).run P w = .ok (.value (Value.slice (some ⟨m.br, m.ob, none⟩) m.k m.nC)) w
    exact ex_load e i0 T.c25 T.a25 (hA.cell (hD.next h0) (Nat.zero_add _))
theorem op30_16 (T : ApT P fs f1 f2 iR iB zR zB) (hD : ApD w0 m) (hA : Api w0 m a0 a w) (h0 : 0 < m.k) (hsz : 152 ≤ a.tmps.size) {i j x : Nat} {bx : Bool} (hi : i < m.k) (hj : j < m.k) (hx : x < m.L) (hL : 0 < m.L) (hbx : X i j = bx) {b : Nat} (hM : Mat w b m.k m.k 26 4 bs X) (e7 : a.eval (.tmp 7) = (Value.pointer (some ⟨m.bd, 0, none⟩))) (e9 : a.eval (.tmp 9) = (Value.slice (some ⟨b, 0, none⟩) m.k m.k)) (e13 : a.eval (.tmp 13) = (Value.int .i64 ((i : Nat) : Int))) (e14 : a.eval (.tmp 14) = (Value.int .i64 ((j : Nat) : Int))) (e15 : a.eval (.tmp 15) = (Value.int .i64 ((x : Nat) : Int))) (R : R30 ops) : DOp P ops 93 16 (vals30 m b bs X bx i j x) a w := by
  cases bx with
  | true =>
    obtain ⟨og, g1, _, g3, _⟩ := R.p12
    exact R.p16.dopn (D := 93) (by decide) g1 g3 (by omega) (show _ = Value.bool true from rfl) (by decide) rfl
  | false =>
    obtain ⟨og, g1, _, g3, _⟩ := R.p12
    refine R.p16.dopg (D := 93) (by decide) g1 g3 (by omega) (show _ = Value.bool false from rfl) fun a' hs ho hd o e => ?_
    have i0 : a'.eval (.tmp 13) = (Value.int .i64 ((i : Nat) : Int)) := (ho 13 (.inl (by decide))).trans e13
    show (execOp a'.eval o).run P w = .ok (.value (Value.int .i64 ((i : Nat) : Int))) w
    exact (ex_move e).trans (by rw [i0])
theorem op30_17 (T : ApT P fs f1 f2 iR iB zR zB) (hD : ApD w0 m) (hA : Api w0 m a0 a w) (h0 : 0 < m.k) (hsz : 152 ≤ a.tmps.size) {i j x : Nat} {bx : Bool} (hi : i < m.k) (hj : j < m.k) (hx : x < m.L) (hL : 0 < m.L) (hbx : X i j = bx) {b : Nat} (hM : Mat w b m.k m.k 26 4 bs X) (e7 : a.eval (.tmp 7) = (Value.pointer (some ⟨m.bd, 0, none⟩))) (e9 : a.eval (.tmp 9) = (Value.slice (some ⟨b, 0, none⟩) m.k m.k)) (e13 : a.eval (.tmp 13) = (Value.int .i64 ((i : Nat) : Int))) (e14 : a.eval (.tmp 14) = (Value.int .i64 ((j : Nat) : Int))) (e15 : a.eval (.tmp 15) = (Value.int .i64 ((x : Nat) : Int))) (R : R30 ops) : DOp P ops 93 17 (vals30 m b bs X bx i j x) a w := by
  cases bx with
  | true =>
    obtain ⟨og, g1, _, g3, _⟩ := R.p12
    exact R.p17.dopn (D := 93) (by decide) g1 g3 (by omega) (show _ = Value.bool true from rfl) (by decide) rfl
  | false =>
    obtain ⟨og, g1, _, g3, _⟩ := R.p12
    refine R.p17.dopg (D := 93) (by decide) g1 g3 (by omega) (show _ = Value.bool false from rfl) fun a' hs ho hd o e => ?_
    have i0 : a'.eval (.tmp 108) = (Value.slice (some ⟨m.br, m.ob, none⟩) m.k m.nC) := hd 15 (by decide)
    have i1 : a'.eval (.tmp 109) = (Value.int .i64 ((i : Nat) : Int)) := hd 16 (by decide)
    show (execOp a'.eval o).run P w = .ok (.value (Value.pointer (some ⟨m.br, m.ob + i * 1, none⟩))) w
    exact ex_index e T.u25 T.c33 hi i0 i1
theorem op30_18 (T : ApT P fs f1 f2 iR iB zR zB) (hD : ApD w0 m) (hA : Api w0 m a0 a w) (h0 : 0 < m.k) (hsz : 152 ≤ a.tmps.size) {i j x : Nat} {bx : Bool} (hi : i < m.k) (hj : j < m.k) (hx : x < m.L) (hL : 0 < m.L) (hbx : X i j = bx) {b : Nat} (hM : Mat w b m.k m.k 26 4 bs X) (e7 : a.eval (.tmp 7) = (Value.pointer (some ⟨m.bd, 0, none⟩))) (e9 : a.eval (.tmp 9) = (Value.slice (some ⟨b, 0, none⟩) m.k m.k)) (e13 : a.eval (.tmp 13) = (Value.int .i64 ((i : Nat) : Int))) (e14 : a.eval (.tmp 14) = (Value.int .i64 ((j : Nat) : Int))) (e15 : a.eval (.tmp 15) = (Value.int .i64 ((x : Nat) : Int))) (R : R30 ops) : DOp P ops 93 18 (vals30 m b bs X bx i j x) a w := by
  cases bx with
  | true =>
    obtain ⟨og, g1, _, g3, _⟩ := R.p12
    exact R.p18.dopn (D := 93) (by decide) g1 g3 (by omega) (show _ = Value.bool true from rfl) (by decide) rfl
  | false =>
    obtain ⟨og, g1, _, g3, _⟩ := R.p12
    refine R.p18.dopg (D := 93) (by decide) g1 g3 (by omega) (show _ = Value.bool false from rfl) fun a' hs ho hd o e => ?_
    have i0 : a'.eval (.tmp 110) = (Value.pointer (some ⟨m.br, m.ob + i * 1, none⟩)) := hd 17 (by decide)
    show (execOp a'.eval o).run P w = .ok (.value (Value.slice (some ⟨m.rb i, m.ro i, none⟩) m.L (m.rC i))) w
    exact ex_load e i0 T.c33 T.a33 (hA.cell (hD.row i hi hL) (by rw [Nat.mul_one]))
theorem op30_19 (T : ApT P fs f1 f2 iR iB zR zB) (hD : ApD w0 m) (hA : Api w0 m a0 a w) (h0 : 0 < m.k) (hsz : 152 ≤ a.tmps.size) {i j x : Nat} {bx : Bool} (hi : i < m.k) (hj : j < m.k) (hx : x < m.L) (hL : 0 < m.L) (hbx : X i j = bx) {b : Nat} (hM : Mat w b m.k m.k 26 4 bs X) (e7 : a.eval (.tmp 7) = (Value.pointer (some ⟨m.bd, 0, none⟩))) (e9 : a.eval (.tmp 9) = (Value.slice (some ⟨b, 0, none⟩) m.k m.k)) (e13 : a.eval (.tmp 13) = (Value.int .i64 ((i : Nat) : Int))) (e14 : a.eval (.tmp 14) = (Value.int .i64 ((j : Nat) : Int))) (e15 : a.eval (.tmp 15) = (Value.int .i64 ((x : Nat) : Int))) (R : R30 ops) : DOp P ops 93 19 (vals30 m b bs X bx i j x) a w := by
  cases bx with
  | true =>
    obtain ⟨og, g1, _, g3, _⟩ := R.p12
    exact R.p19.dopn (D := 93) (by decide) g1 g3 (by omega) (show _ = Value.bool true from rfl) (by decide) rfl
  | false =>
    obtain ⟨og, g1, _, g3, _⟩ := R.p12
    refine R.p19.dopg (D := 93) (by decide) g1 g3 (by omega) (show _ = Value.bool false from rfl) fun a' hs ho hd o e => ?_
    have i0 : a'.eval (.tmp 15) = (Value.int .i64 ((x : Nat) : Int)) := (ho 15 (.inl (by decide))).trans e15
    show (execOp a'.eval o).run P w = .ok (.value (Value.int .i64 ((x : Nat) : Int))) w
    exact (ex_move e).trans (by rw [i0])
theorem op30_20 (T : ApT P fs f1 f2 iR iB zR zB) (hD : ApD w0 m) (hA : Api w0 m a0 a w) (h0 : 0 < m.k) (hsz : 152 ≤ a.tmps.size) {i j x : Nat} {bx : Bool} (hi : i < m.k) (hj : j < m.k) (hx : x < m.L) (hL : 0 < m.L) (hbx : X i j = bx) {b : Nat} (hM : Mat w b m.k m.k 26 4 bs X) (e7 : a.eval (.tmp 7) = (Value.pointer (some ⟨m.bd, 0, none⟩))) (e9 : a.eval (.tmp 9) = (Value.slice (some ⟨b, 0, none⟩) m.k m.k)) (e13 : a.eval (.tmp 13) = (Value.int .i64 ((i : Nat) : Int))) (e14 : a.eval (.tmp 14) = (Value.int .i64 ((j : Nat) : Int))) (e15 : a.eval (.tmp 15) = (Value.int .i64 ((x : Nat) : Int))) (R : R30 ops) : DOp P ops 93 20 (vals30 m b bs X bx i j x) a w := by
  cases bx with
  | true =>
    obtain ⟨og, g1, _, g3, _⟩ := R.p12
    exact R.p20.dopn (D := 93) (by decide) g1 g3 (by omega) (show _ = Value.bool true from rfl) (by decide) rfl
  | false =>
    obtain ⟨og, g1, _, g3, _⟩ := R.p12
    refine R.p20.dopg (D := 93) (by decide) g1 g3 (by omega) (show _ = Value.bool false from rfl) fun a' hs ho hd o e => ?_
    have i0 : a'.eval (.tmp 111) = (Value.slice (some ⟨m.rb i, m.ro i, none⟩) m.L (m.rC i)) := hd 18 (by decide)
    have i1 : a'.eval (.tmp 112) = (Value.int .i64 ((x : Nat) : Int)) := hd 19 (by decide)
    show (execOp a'.eval o).run P w = .ok (.value (Value.pointer (some ⟨m.rb i, m.ro i + x * 1, none⟩))) w
    exact ex_index e T.u33 T.c3 hx i0 i1
theorem op30_21 (T : ApT P fs f1 f2 iR iB zR zB) (hD : ApD w0 m) (hA : Api w0 m a0 a w) (h0 : 0 < m.k) (hsz : 152 ≤ a.tmps.size) {i j x : Nat} {bx : Bool} (hi : i < m.k) (hj : j < m.k) (hx : x < m.L) (hL : 0 < m.L) (hbx : X i j = bx) {b : Nat} (hM : Mat w b m.k m.k 26 4 bs X) (e7 : a.eval (.tmp 7) = (Value.pointer (some ⟨m.bd, 0, none⟩))) (e9 : a.eval (.tmp 9) = (Value.slice (some ⟨b, 0, none⟩) m.k m.k)) (e13 : a.eval (.tmp 13) = (Value.int .i64 ((i : Nat) : Int))) (e14 : a.eval (.tmp 14) = (Value.int .i64 ((j : Nat) : Int))) (e15 : a.eval (.tmp 15) = (Value.int .i64 ((x : Nat) : Int))) (R : R30 ops) : DOp P ops 93 21 (vals30 m b bs X bx i j x) a w := by
  cases bx with
  | true =>
    obtain ⟨og, g1, _, g3, _⟩ := R.p12
    exact R.p21.dopn (D := 93) (by decide) g1 g3 (by omega) (show _ = Value.bool true from rfl) (by decide) rfl
  | false =>
    obtain ⟨og, g1, _, g3, _⟩ := R.p12
    refine R.p21.dopg (D := 93) (by decide) g1 g3 (by omega) (show _ = Value.bool false from rfl) fun a' hs ho hd o e => ?_
    have i0 : a'.eval (.tmp 113) = (Value.pointer (some ⟨m.rb i, m.ro i + x * 1, none⟩)) := hd 20 (by decide)
    show (execOp a'.eval o).run P w = .ok (.value (Value.int .i64 ((m.nx i x : Nat) : Int))) w
    exact ex_load e i0 T.c3 T.a3 (hA.cell (hD.nxc i x hi hx) (by rw [Nat.mul_one]))
theorem op30_22 (T : ApT P fs f1 f2 iR iB zR zB) (hD : ApD w0 m) (hA : Api w0 m a0 a w) (h0 : 0 < m.k) (hsz : 152 ≤ a.tmps.size) {i j x : Nat} {bx : Bool} (hi : i < m.k) (hj : j < m.k) (hx : x < m.L) (hL : 0 < m.L) (hbx : X i j = bx) {b : Nat} (hM : Mat w b m.k m.k 26 4 bs X) (e7 : a.eval (.tmp 7) = (Value.pointer (some ⟨m.bd, 0, none⟩))) (e9 : a.eval (.tmp 9) = (Value.slice (some ⟨b, 0, none⟩) m.k m.k)) (e13 : a.eval (.tmp 13) = (Value.int .i64 ((i : Nat) : Int))) (e14 : a.eval (.tmp 14) = (Value.int .i64 ((j : Nat) : Int))) (e15 : a.eval (.tmp 15) = (Value.int .i64 ((x : Nat) : Int))) (R : R30 ops) : DOp P ops 93 22 (vals30 m b bs X bx i j x) a w := by
  cases bx with
  | true =>
    obtain ⟨og, g1, _, g3, _⟩ := R.p12
    exact R.p22.dopn (D := 93) (by decide) g1 g3 (by omega) (show _ = Value.bool true from rfl) (by decide) rfl
  | false =>
    obtain ⟨og, g1, _, g3, _⟩ := R.p12
    refine R.p22.dopg (D := 93) (by decide) g1 g3 (by omega) (show _ = Value.bool false from rfl) fun a' hs ho hd o e => ?_
    have i0 : a'.eval (.tmp 106) = (Value.slice (some ⟨b, 0, none⟩) m.k m.k) := hd 13 (by decide)
    have i1 : a'.eval (.tmp 114) = (Value.int .i64 ((m.nx i x : Nat) : Int)) := hd 21 (by decide)
    show (execOp a'.eval o).run P w = .ok (.value (Value.pointer (some ⟨b, 0 + m.nx i x * 1, none⟩))) w
    exact ex_index e T.u42 T.c26 (hD.nxk i x hi hx) i0 i1
theorem op30_23 (T : ApT P fs f1 f2 iR iB zR zB) (hD : ApD w0 m) (hA : Api w0 m a0 a w) (h0 : 0 < m.k) (hsz : 152 ≤ a.tmps.size) {i j x : Nat} {bx : Bool} (hi : i < m.k) (hj : j < m.k) (hx : x < m.L) (hL : 0 < m.L) (hbx : X i j = bx) {b : Nat} (hM : Mat w b m.k m.k 26 4 bs X) (e7 : a.eval (.tmp 7) = (Value.pointer (some ⟨m.bd, 0, none⟩))) (e9 : a.eval (.tmp 9) = (Value.slice (some ⟨b, 0, none⟩) m.k m.k)) (e13 : a.eval (.tmp 13) = (Value.int .i64 ((i : Nat) : Int))) (e14 : a.eval (.tmp 14) = (Value.int .i64 ((j : Nat) : Int))) (e15 : a.eval (.tmp 15) = (Value.int .i64 ((x : Nat) : Int))) (R : R30 ops) : DOp P ops 93 23 (vals30 m b bs X bx i j x) a w := by
  cases bx with
  | true =>
    obtain ⟨og, g1, _, g3, _⟩ := R.p12
    exact R.p23.dopn (D := 93) (by decide) g1 g3 (by omega) (show _ = Value.bool true from rfl) (by decide) rfl
  | false =>
    obtain ⟨og, g1, _, g3, _⟩ := R.p12
    refine R.p23.dopg (D := 93) (by decide) g1 g3 (by omega) (show _ = Value.bool false from rfl) fun a' hs ho hd o e => ?_
    have i0 : a'.eval (.tmp 115) = (Value.pointer (some ⟨b, 0 + m.nx i x * 1, none⟩)) := hd 22 (by decide)
    show (execOp a'.eval o).run P w = .ok (.value (Value.slice (some ⟨bs (m.nx i x), 0, none⟩) m.k m.k)) w
    exact ex_load e i0 T.c26 T.a26 (hM.hdr' (hD.nxk i x hi hx))
theorem op30_24 (T : ApT P fs f1 f2 iR iB zR zB) (hD : ApD w0 m) (hA : Api w0 m a0 a w) (h0 : 0 < m.k) (hsz : 152 ≤ a.tmps.size) {i j x : Nat} {bx : Bool} (hi : i < m.k) (hj : j < m.k) (hx : x < m.L) (hL : 0 < m.L) (hbx : X i j = bx) {b : Nat} (hM : Mat w b m.k m.k 26 4 bs X) (e7 : a.eval (.tmp 7) = (Value.pointer (some ⟨m.bd, 0, none⟩))) (e9 : a.eval (.tmp 9) = (Value.slice (some ⟨b, 0, none⟩) m.k m.k)) (e13 : a.eval (.tmp 13) = (Value.int .i64 ((i : Nat) : Int))) (e14 : a.eval (.tmp 14) = (Value.int .i64 ((j : Nat) : Int))) (e15 : a.eval (.tmp 15) = (Value.int .i64 ((x : Nat) : Int))) (R : R30 ops) : DOp P ops 93 24 (vals30 m b bs X bx i j x) a w := by
  cases bx with
  | true =>
    obtain ⟨og, g1, _, g3, _⟩ := R.p12
    exact R.p24.dopn (D := 93) (by decide) g1 g3 (by omega) (show _ = Value.bool true from rfl) (by decide) rfl
  | false =>
    obtain ⟨og, g1, _, g3, _⟩ := R.p12
    refine R.p24.dopg (D := 93) (by decide) g1 g3 (by omega) (show _ = Value.bool false from rfl) fun a' hs ho hd o e => ?_
    have i0 : a'.eval (.tmp 7) = (Value.pointer (some ⟨m.bd, 0, none⟩)) := (ho 7 (.inl (by decide))).trans e7
    show (execOp a'.eval o).run P w = .ok (.value (Value.pointer (some ⟨m.bd, 0 + 256, none⟩))) w
    exact (ex_field e T.hD T.h1 T.c1 i0).trans (by rw [T.o1])
theorem op30_25 (T : ApT P fs f1 f2 iR iB zR zB) (hD : ApD w0 m) (hA : Api w0 m a0 a w) (h0 : 0 < m.k) (hsz : 152 ≤ a.tmps.size) {i j x : Nat} {bx : Bool} (hi : i < m.k) (hj : j < m.k) (hx : x < m.L) (hL : 0 < m.L) (hbx : X i j = bx) {b : Nat} (hM : Mat w b m.k m.k 26 4 bs X) (e7 : a.eval (.tmp 7) = (Value.pointer (some ⟨m.bd, 0, none⟩))) (e9 : a.eval (.tmp 9) = (Value.slice (some ⟨b, 0, none⟩) m.k m.k)) (e13 : a.eval (.tmp 13) = (Value.int .i64 ((i : Nat) : Int))) (e14 : a.eval (.tmp 14) = (Value.int .i64 ((j : Nat) : Int))) (e15 : a.eval (.tmp 15) = (Value.int .i64 ((x : Nat) : Int))) (R : R30 ops) : DOp P ops 93 25 (vals30 m b bs X bx i j x) a w := by
  cases bx with
  | true =>
    obtain ⟨og, g1, _, g3, _⟩ := R.p12
    exact R.p25.dopn (D := 93) (by decide) g1 g3 (by omega) (show _ = Value.bool true from rfl) (by decide) rfl
  | false =>
    obtain ⟨og, g1, _, g3, _⟩ := R.p12
    refine R.p25.dopg (D := 93) (by decide) g1 g3 (by omega) (show _ = Value.bool false from rfl) fun a' hs ho hd o e => ?_
    have i0 : a'.eval (.tmp 117) = (Value.pointer (some ⟨m.bd, 0 + 256, none⟩)) := hd 24 (by decide)
    show (execOp a'.eval o).run P w = .ok (.value (Value.slice (some ⟨m.br, m.ob, none⟩) m.k m.nC)) w
    exact ex_load e i0 T.c25 T.a25 (hA.cell (hD.next h0) (Nat.zero_add _))
theorem op30_26 (T : ApT P fs f1 f2 iR iB zR zB) (hD : ApD w0 m) (hA : Api w0 m a0 a w) (h0 : 0 < m.k) (hsz : 152 ≤ a.tmps.size) {i j x : Nat} {bx : Bool} (hi : i < m.k) (hj : j < m.k) (hx : x < m.L) (hL : 0 < m.L) (hbx : X i j = bx) {b : Nat} (hM : Mat w b m.k m.k 26 4 bs X) (e7 : a.eval (.tmp 7) = (Value.pointer (some ⟨m.bd, 0, none⟩))) (e9 : a.eval (.tmp 9) = (Value.slice (some ⟨b, 0, none⟩) m.k m.k)) (e13 : a.eval (.tmp 13) = (Value.int .i64 ((i : Nat) : Int))) (e14 : a.eval (.tmp 14) = (Value.int .i64 ((j : Nat) : Int))) (e15 : a.eval (.tmp 15) = (Value.int .i64 ((x : Nat) : Int))) (R : R30 ops) : DOp P ops 93 26 (vals30 m b bs X bx i j x) a w := by
  cases bx with
  | true =>
    obtain ⟨og, g1, _, g3, _⟩ := R.p12
    exact R.p26.dopn (D := 93) (by decide) g1 g3 (by omega) (show _ = Value.bool true from rfl) (by decide) rfl
  | false =>
    obtain ⟨og, g1, _, g3, _⟩ := R.p12
    refine R.p26.dopg (D := 93) (by decide) g1 g3 (by omega) (show _ = Value.bool false from rfl) fun a' hs ho hd o e => ?_
    have i0 : a'.eval (.tmp 14) = (Value.int .i64 ((j : Nat) : Int)) := (ho 14 (.inl (by decide))).trans e14
    show (execOp a'.eval o).run P w = .ok (.value (Value.int .i64 ((j : Nat) : Int))) w
    exact (ex_move e).trans (by rw [i0])
theorem op30_27 (T : ApT P fs f1 f2 iR iB zR zB) (hD : ApD w0 m) (hA : Api w0 m a0 a w) (h0 : 0 < m.k) (hsz : 152 ≤ a.tmps.size) {i j x : Nat} {bx : Bool} (hi : i < m.k) (hj : j < m.k) (hx : x < m.L) (hL : 0 < m.L) (hbx : X i j = bx) {b : Nat} (hM : Mat w b m.k m.k 26 4 bs X) (e7 : a.eval (.tmp 7) = (Value.pointer (some ⟨m.bd, 0, none⟩))) (e9 : a.eval (.tmp 9) = (Value.slice (some ⟨b, 0, none⟩) m.k m.k)) (e13 : a.eval (.tmp 13) = (Value.int .i64 ((i : Nat) : Int))) (e14 : a.eval (.tmp 14) = (Value.int .i64 ((j : Nat) : Int))) (e15 : a.eval (.tmp 15) = (Value.int .i64 ((x : Nat) : Int))) (R : R30 ops) : DOp P ops 93 27 (vals30 m b bs X bx i j x) a w := by
  cases bx with
  | true =>
    obtain ⟨og, g1, _, g3, _⟩ := R.p12
    exact R.p27.dopn (D := 93) (by decide) g1 g3 (by omega) (show _ = Value.bool true from rfl) (by decide) rfl
  | false =>
    obtain ⟨og, g1, _, g3, _⟩ := R.p12
    refine R.p27.dopg (D := 93) (by decide) g1 g3 (by omega) (show _ = Value.bool false from rfl) fun a' hs ho hd o e => ?_
    have i0 : a'.eval (.tmp 118) = (Value.slice (some ⟨m.br, m.ob, none⟩) m.k m.nC) := hd 25 (by decide)
    have i1 : a'.eval (.tmp 119) = (Value.int .i64 ((j : Nat) : Int)) := hd 26 (by decide)
    show (execOp a'.eval o).run P w = .ok (.value (Value.pointer (some ⟨m.br, m.ob + j * 1, none⟩))) w
    exact ex_index e T.u25 T.c33 hj i0 i1
theorem op30_28 (T : ApT P fs f1 f2 iR iB zR zB) (hD : ApD w0 m) (hA : Api w0 m a0 a w) (h0 : 0 < m.k) (hsz : 152 ≤ a.tmps.size) {i j x : Nat} {bx : Bool} (hi : i < m.k) (hj : j < m.k) (hx : x < m.L) (hL : 0 < m.L) (hbx : X i j = bx) {b : Nat} (hM : Mat w b m.k m.k 26 4 bs X) (e7 : a.eval (.tmp 7) = (Value.pointer (some ⟨m.bd, 0, none⟩))) (e9 : a.eval (.tmp 9) = (Value.slice (some ⟨b, 0, none⟩) m.k m.k)) (e13 : a.eval (.tmp 13) = (Value.int .i64 ((i : Nat) : Int))) (e14 : a.eval (.tmp 14) = (Value.int .i64 ((j : Nat) : Int))) (e15 : a.eval (.tmp 15) = (Value.int .i64 ((x : Nat) : Int))) (R : R30 ops) : DOp P ops 93 28 (vals30 m b bs X bx i j x) a w := by
  cases bx with
  | true =>
    obtain ⟨og, g1, _, g3, _⟩ := R.p12
    exact R.p28.dopn (D := 93) (by decide) g1 g3 (by omega) (show _ = Value.bool true from rfl) (by decide) rfl
  | false =>
    obtain ⟨og, g1, _, g3, _⟩ := R.p12
    refine R.p28.dopg (D := 93) (by decide) g1 g3 (by omega) (show _ = Value.bool false from rfl) fun a' hs ho hd o e => ?_
    have i0 : a'.eval (.tmp 120) = (Value.pointer (some ⟨m.br, m.ob + j * 1, none⟩)) := hd 27 (by decide)
    show (execOp a'.eval o).run P w = .ok (.value (Value.slice (some ⟨m.rb j, m.ro j, none⟩) m.L (m.rC j))) w
    exact ex_load e i0 T.c33 T.a33 (hA.cell (hD.row j hj hL) (by rw [Nat.mul_one]))
theorem op30_29 (T : ApT P fs f1 f2 iR iB zR zB) (hD : ApD w0 m) (hA : Api w0 m a0 a w) (h0 : 0 < m.k) (hsz : 152 ≤ a.tmps.size) {i j x : Nat} {bx : Bool} (hi : i < m.k) (hj : j < m.k) (hx : x < m.L) (hL : 0 < m.L) (hbx : X i j = bx) {b : Nat} (hM : Mat w b m.k m.k 26 4 bs X) (e7 : a.eval (.tmp 7) = (Value.pointer (some ⟨m.bd, 0, none⟩))) (e9 : a.eval (.tmp 9) = (Value.slice (some ⟨b, 0, none⟩) m.k m.k)) (e13 : a.eval (.tmp 13) = (Value.int .i64 ((i : Nat) : Int))) (e14 : a.eval (.tmp 14) = (Value.int .i64 ((j : Nat) : Int))) (e15 : a.eval (.tmp 15) = (Value.int .i64 ((x : Nat) : Int))) (R : R30 ops) : DOp P ops 93 29 (vals30 m b bs X bx i j x) a w := by
  cases bx with
  | true =>
    obtain ⟨og, g1, _, g3, _⟩ := R.p12
    exact R.p29.dopn (D := 93) (by decide) g1 g3 (by omega) (show _ = Value.bool true from rfl) (by decide) rfl
  | false =>
    obtain ⟨og, g1, _, g3, _⟩ := R.p12
    refine R.p29.dopg (D := 93) (by decide) g1 g3 (by omega) (show _ = Value.bool false from rfl) fun a' hs ho hd o e => ?_
    have i0 : a'.eval (.tmp 15) = (Value.int .i64 ((x : Nat) : Int)) := (ho 15 (.inl (by decide))).trans e15
    show (execOp a'.eval o).run P w = .ok (.value (Value.int .i64 ((x : Nat) : Int))) w
    exact (ex_move e).trans (by rw [i0])
theorem op30_30 (T : ApT P fs f1 f2 iR iB zR zB) (hD : ApD w0 m) (hA : Api w0 m a0 a w) (h0 : 0 < m.k) (hsz : 152 ≤ a.tmps.size) {i j x : Nat} {bx : Bool} (hi : i < m.k) (hj : j < m.k) (hx : x < m.L) (hL : 0 < m.L) (hbx : X i j = bx) {b : Nat} (hM : Mat w b m.k m.k 26 4 bs X) (e7 : a.eval (.tmp 7) = (Value.pointer (some ⟨m.bd, 0, none⟩))) (e9 : a.eval (.tmp 9) = (Value.slice (some ⟨b, 0, none⟩) m.k m.k)) (e13 : a.eval (.tmp 13) = (Value.int .i64 ((i : Nat) : Int))) (e14 : a.eval (.tmp 14) = (Value.int .i64 ((j : Nat) : Int))) (e15 : a.eval (.tmp 15) = (Value.int .i64 ((x : Nat) : Int))) (R : R30 ops) : DOp P ops 93 30 (vals30 m b bs X bx i j x) a w := by
  cases bx with
  | true =>
    obtain ⟨og, g1, _, g3, _⟩ := R.p12
    exact R.p30.dopn (D := 93) (by decide) g1 g3 (by omega) (show _ = Value.bool true from rfl) (by decide) rfl
  | false =>
    obtain ⟨og, g1, _, g3, _⟩ := R.p12
    refine R.p30.dopg (D := 93) (by decide) g1 g3 (by omega) (show _ = Value.bool false from rfl) fun a' hs ho hd o e => ?_
    have i0 : a'.eval (.tmp 121) = (Value.slice (some ⟨m.rb j, m.ro j, none⟩) m.L (m.rC j)) := hd 28 (by decide)
    have i1 : a'.eval (.tmp 122) = (Value.int .i64 ((x : Nat) : Int)) := hd 29 (by decide)
    show (execOp a'.eval o).run P w = .ok (.value (Value.pointer (some ⟨m.rb j, m.ro j + x * 1, none⟩))) w
    exact ex_index e T.u33 T.c3 hx i0 i1
theorem op30_31 (T : ApT P fs f1 f2 iR iB zR zB) (hD : ApD w0 m) (hA : Api w0 m a0 a w) (h0 : 0 < m.k) (hsz : 152 ≤ a.tmps.size) {i j x : Nat} {bx : Bool} (hi : i < m.k) (hj : j < m.k) (hx : x < m.L) (hL : 0 < m.L) (hbx : X i j = bx) {b : Nat} (hM : Mat w b m.k m.k 26 4 bs X) (e7 : a.eval (.tmp 7) = (Value.pointer (some ⟨m.bd, 0, none⟩))) (e9 : a.eval (.tmp 9) = (Value.slice (some ⟨b, 0, none⟩) m.k m.k)) (e13 : a.eval (.tmp 13) = (Value.int .i64 ((i : Nat) : Int))) (e14 : a.eval (.tmp 14) = (Value.int .i64 ((j : Nat) : Int))) (e15 : a.eval (.tmp 15) = (Value.int .i64 ((x : Nat) : Int))) (R : R30 ops) : DOp P ops 93 31 (vals30 m b bs X bx i j x) a w := by
  cases bx with
  | true =>
    obtain ⟨og, g1, _, g3, _⟩ := R.p12
    exact R.p31.dopn (D := 93) (by decide) g1 g3 (by omega) (show _ = Value.bool true from rfl) (by decide) rfl
  | false =>
    obtain ⟨og, g1, _, g3, _⟩ := R.p12
    refine R.p31.dopg (D := 93) (by decide) g1 g3 (by omega) (show _ = Value.bool false from rfl) fun a' hs ho hd o e => ?_
    have i0 : a'.eval (.tmp 123) = (Value.pointer (some ⟨m.rb j, m.ro j + x * 1, none⟩)) := hd 30 (by decide)
    show (execOp a'.eval o).run P w = .ok (.value (Value.int .i64 ((m.nx j x : Nat) : Int))) w
    exact ex_load e i0 T.c3 T.a3 (hA.cell (hD.nxc j x hj hx) (by rw [Nat.mul_one]))
theorem op30_32 (T : ApT P fs f1 f2 iR iB zR zB) (hD : ApD w0 m) (hA : Api w0 m a0 a w) (h0 : 0 < m.k) (hsz : 152 ≤ a.tmps.size) {i j x : Nat} {bx : Bool} (hi : i < m.k) (hj : j < m.k) (hx : x < m.L) (hL : 0 < m.L) (hbx : X i j = bx) {b : Nat} (hM : Mat w b m.k m.k 26 4 bs X) (e7 : a.eval (.tmp 7) = (Value.pointer (some ⟨m.bd, 0, none⟩))) (e9 : a.eval (.tmp 9) = (Value.slice (some ⟨b, 0, none⟩) m.k m.k)) (e13 : a.eval (.tmp 13) = (Value.int .i64 ((i : Nat) : Int))) (e14 : a.eval (.tmp 14) = (Value.int .i64 ((j : Nat) : Int))) (e15 : a.eval (.tmp 15) = (Value.int .i64 ((x : Nat) : Int))) (R : R30 ops) : DOp P ops 93 32 (vals30 m b bs X bx i j x) a w := by
  cases bx with
  | true =>
    obtain ⟨og, g1, _, g3, _⟩ := R.p12
    exact R.p32.dopn (D := 93) (by decide) g1 g3 (by omega) (show _ = Value.bool true from rfl) (by decide) rfl
  | false =>
    obtain ⟨og, g1, _, g3, _⟩ := R.p12
    refine R.p32.dopg (D := 93) (by decide) g1 g3 (by omega) (show _ = Value.bool false from rfl) fun a' hs ho hd o e => ?_
    have i0 : a'.eval (.tmp 116) = (Value.slice (some ⟨bs (m.nx i x), 0, none⟩) m.k m.k) := hd 23 (by decide)
    have i1 : a'.eval (.tmp 124) = (Value.int .i64 ((m.nx j x : Nat) : Int)) := hd 31 (by decide)
    show (execOp a'.eval o).run P w = .ok (.value (Value.pointer (some ⟨bs (m.nx i x), 0 + m.nx j x * 1, none⟩))) w
    exact ex_index e T.u26 T.c4 (hD.nxk j x hj hx) i0 i1
theorem op30_33 (T : ApT P fs f1 f2 iR iB zR zB) (hD : ApD w0 m) (hA : Api w0 m a0 a w) (h0 : 0 < m.k) (hsz : 152 ≤ a.tmps.size) {i j x : Nat} {bx : Bool} (hi : i < m.k) (hj : j < m.k) (hx : x < m.L) (hL : 0 < m.L) (hbx : X i j = bx) {b : Nat} (hM : Mat w b m.k m.k 26 4 bs X) (e7 : a.eval (.tmp 7) = (Value.pointer (some ⟨m.bd, 0, none⟩))) (e9 : a.eval (.tmp 9) = (Value.slice (some ⟨b, 0, none⟩) m.k m.k)) (e13 : a.eval (.tmp 13) = (Value.int .i64 ((i : Nat) : Int))) (e14 : a.eval (.tmp 14) = (Value.int .i64 ((j : Nat) : Int))) (e15 : a.eval (.tmp 15) = (Value.int .i64 ((x : Nat) : Int))) (R : R30 ops) : DOp P ops 93 33 (vals30 m b bs X bx i j x) a w := by
  cases bx with
  | true =>
    obtain ⟨og, g1, _, g3, _⟩ := R.p12
    exact R.p33.dopn (D := 93) (by decide) g1 g3 (by omega) (show _ = Value.bool true from rfl) (by decide) rfl
  | false =>
    obtain ⟨og, g1, _, g3, _⟩ := R.p12
    refine R.p33.dopg (D := 93) (by decide) g1 g3 (by omega) (show _ = Value.bool false from rfl) fun a' hs ho hd o e => ?_
    have i0 : a'.eval (.tmp 125) = (Value.pointer (some ⟨bs (m.nx i x), 0 + m.nx j x * 1, none⟩)) := hd 32 (by decide)
    show (execOp a'.eval o).run P w = .ok (.value (Value.bool (X (m.nx i x) (m.nx j x)))) w
    exact ex_load e i0 T.c4 T.a4 (hM.bit' (hD.nxk i x hi hx) (hD.nxk j x hj hx))
theorem op30_34 (T : ApT P fs f1 f2 iR iB zR zB) (hD : ApD w0 m) (hA : Api w0 m a0 a w) (h0 : 0 < m.k) (hsz : 152 ≤ a.tmps.size) {i j x : Nat} {bx : Bool} (hi : i < m.k) (hj : j < m.k) (hx : x < m.L) (hL : 0 < m.L) (hbx : X i j = bx) {b : Nat} (hM : Mat w b m.k m.k 26 4 bs X) (e7 : a.eval (.tmp 7) = (Value.pointer (some ⟨m.bd, 0, none⟩))) (e9 : a.eval (.tmp 9) = (Value.slice (some ⟨b, 0, none⟩) m.k m.k)) (e13 : a.eval (.tmp 13) = (Value.int .i64 ((i : Nat) : Int))) (e14 : a.eval (.tmp 14) = (Value.int .i64 ((j : Nat) : Int))) (e15 : a.eval (.tmp 15) = (Value.int .i64 ((x : Nat) : Int))) (R : R30 ops) : DOp P ops 93 34 (vals30 m b bs X bx i j x) a w := by
  cases bx with
  | true =>
    refine R.p34.dop (D := 93) fun a' hs ho hd o e => ?_
    have i0 : a'.eval (.tmp 105) = (Value.bool true) := hd 12 (by decide)
    show (execOp a'.eval o).run P w = .ok (.value (Value.bool (true || X (m.nx i x) (m.nx j x)))) w
    exact (ex_pick e i0).trans (by rw [if_pos rfl]; rfl)
  | false =>
    refine R.p34.dop (D := 93) fun a' hs ho hd o e => ?_
    have i0 : a'.eval (.tmp 105) = (Value.bool false) := hd 12 (by decide)
    have i1 : a'.eval (.tmp 126) = (Value.bool (X (m.nx i x) (m.nx j x))) := hd 33 (by decide)
    show (execOp a'.eval o).run P w = .ok (.value (Value.bool (false || X (m.nx i x) (m.nx j x)))) w
    exact (ex_pick e i0).trans (by rw [if_neg (by decide), i1]; rfl)
theorem op30_35 (T : ApT P fs f1 f2 iR iB zR zB) (hD : ApD w0 m) (hA : Api w0 m a0 a w) (h0 : 0 < m.k) (hsz : 152 ≤ a.tmps.size) {i j x : Nat} {bx : Bool} (hi : i < m.k) (hj : j < m.k) (hx : x < m.L) (hL : 0 < m.L) (hbx : X i j = bx) {b : Nat} (hM : Mat w b m.k m.k 26 4 bs X) (e7 : a.eval (.tmp 7) = (Value.pointer (some ⟨m.bd, 0, none⟩))) (e9 : a.eval (.tmp 9) = (Value.slice (some ⟨b, 0, none⟩) m.k m.k)) (e13 : a.eval (.tmp 13) = (Value.int .i64 ((i : Nat) : Int))) (e14 : a.eval (.tmp 14) = (Value.int .i64 ((j : Nat) : Int))) (e15 : a.eval (.tmp 15) = (Value.int .i64 ((x : Nat) : Int))) (R : R30 ops) : DOp P ops 93 35 (vals30 m b bs X bx i j x) a w := by
  refine R.p35.dop (D := 93) fun a' hs ho hd o e => ?_
  have i0 : a'.eval (.tmp 96) = (Value.slice (some ⟨bs (i), 0, none⟩) m.k m.k) := hd 3 (by decide)
  have i1 : a'.eval (.tmp 97) = (Value.int .i64 ((j : Nat) : Int)) := hd 4 (by decide)
  show (execOp a'.eval o).run P w = .ok (.value (Value.pointer (some ⟨bs (i), 0 + j * 1, none⟩))) w
  exact ex_index e T.u26 T.c4 hj i0 i1
/-- all of the region -/
theorem r17_wp (T : ApT P fs f1 f2 iR iB zR zB) (hD : ApD w0 m) (hA : Api w0 m a0 a w) (h0 : 0 < m.k) (hsz : 152 ≤ a.tmps.size) {i j nI : Nat} (hi : i < m.k) (hj : j < m.k) (hiI : i < nI) {b : Nat} (hM : Mat w b m.k nI 26 4 bs X) (e7 : a.eval (.tmp 7) = (Value.pointer (some ⟨m.bd, 0, none⟩))) (e9 : a.eval (.tmp 9) = (Value.slice (some ⟨b, 0, none⟩) m.k m.k)) (e10 : a.eval (.tmp 10) = (Value.int .i64 ((i : Nat) : Int))) (e11 : a.eval (.tmp 11) = (Value.int .i64 ((j : Nat) : Int))) (R : R17 ops) (hnew : ∀ i, i < nI → w0.heap.size < bs i) (hb : b = w0.heap.size) {id : Nat} (Q : Exit → Act → World → Prop)
    (hQ : ∀ (a' : Act) (w' : World), Api w0 m a0 a' w' → Sq w0 m.k nI bs (updM X i j (m.E i != m.E j)) w' → (∀ t : Nat, t < 51 → a'.eval (.tmp t) = a.eval (.tmp t)) → Q .normal a' w') : (Code.region id ops true).wp P Q a w := by
  subst hb
  have hA' : Api w0 m a0 a { w with drawn := w.drawn + 1 } := ⟨hA.tsz, hA.df, hA.e7, hA.e8, hA.e9, hA.size, hA.os, hA.tape, hA.output, hA.old⟩
  have hM' : Mat { w with drawn := w.drawn + 1 } w0.heap.size m.k nI 26 4 bs X := ⟨hM.out, hM.row, hM.apart, hM.other⟩
  obtain ⟨w1, s1, s2, s3, s4, s5, s6, s7⟩ := hM'.store (P := P) hiI hj (m.E i != m.E j) T.c4
  refine drawn_wp (D := 51) (n := 17) (vals := vals17 m w0.heap.size bs i j) T.hm R.s (by omega) (fun t ht => ?_) R.p17 (by decide) (fun a' q1 q2 q3 o ho => s1 _ o _ _ ho ((q3 16 (by decide)).trans ?_) ((q3 15 (by decide)).trans rfl)) fun a' q1 q2 q3 => ?_
  · rcases (by omega : t = 0 ∨ t = 1 ∨ t = 2 ∨ t = 3 ∨ t = 4 ∨ t = 5 ∨ t = 6 ∨ t = 7 ∨ t = 8 ∨ t = 9 ∨ t = 10 ∨ t = 11 ∨ t = 12 ∨ t = 13 ∨ t = 14 ∨ t = 15 ∨ t = 16) with rfl | rfl | rfl | rfl | rfl | rfl | rfl | rfl | rfl | rfl | rfl | rfl | rfl | rfl | rfl | rfl | rfl
    · exact op17_0 T hD hA' h0 hsz hi hj hiI hM' e7 e9 e10 e11 R
    · exact op17_1 T hD hA' h0 hsz hi hj hiI hM' e7 e9 e10 e11 R
    · exact op17_2 T hD hA' h0 hsz hi hj hiI hM' e7 e9 e10 e11 R
    · exact op17_3 T hD hA' h0 hsz hi hj hiI hM' e7 e9 e10 e11 R
    · exact op17_4 T hD hA' h0 hsz hi hj hiI hM' e7 e9 e10 e11 R
    · exact op17_5 T hD hA' h0 hsz hi hj hiI hM' e7 e9 e10 e11 R
    · exact op17_6 T hD hA' h0 hsz hi hj hiI hM' e7 e9 e10 e11 R
    · exact op17_7 T hD hA' h0 hsz hi hj hiI hM' e7 e9 e10 e11 R
    · exact op17_8 T hD hA' h0 hsz hi hj hiI hM' e7 e9 e10 e11 R
    · exact op17_9 T hD hA' h0 hsz hi hj hiI hM' e7 e9 e10 e11 R
    · exact op17_10 T hD hA' h0 hsz hi hj hiI hM' e7 e9 e10 e11 R
    · exact op17_11 T hD hA' h0 hsz hi hj hiI hM' e7 e9 e10 e11 R
    · exact op17_12 T hD hA' h0 hsz hi hj hiI hM' e7 e9 e10 e11 R
    · exact op17_13 T hD hA' h0 hsz hi hj hiI hM' e7 e9 e10 e11 R
    · exact op17_14 T hD hA' h0 hsz hi hj hiI hM' e7 e9 e10 e11 R
    · exact op17_15 T hD hA' h0 hsz hi hj hiI hM' e7 e9 e10 e11 R
    · exact op17_16 T hD hA' h0 hsz hi hj hiI hM' e7 e9 e10 e11 R
  · show Value.pointer (some ⟨bs i, 0 + j * 1, none⟩) = _
    rw [show 0 + j * 1 = j by omega]
  · have hne : ∀ c, c < w0.heap.size → w1.heap[c]? = w0.heap[c]? := fun c hc => by
      rw [s4 c (by have := hnew i hiI; omega)]; exact hA.old c hc
    exact hQ a' w1 ⟨q1.trans hA.tsz, q2.trans hA.df, (q3 7 (.inl (by decide))).trans hA.e7, (q3 8 (.inl (by decide))).trans hA.e8, (q3 9 (.inl (by decide))).trans hA.e9, by rw [s3]; exact hA.size, s5.trans hA.os, s6.trans hA.tape, s7.trans hA.output, hne⟩ ⟨s2, hnew⟩ fun t ht => q3 t (.inl ht)
/-- all of the region -/
theorem r30_wp (T : ApT P fs f1 f2 iR iB zR zB) (hD : ApD w0 m) (hA : Api w0 m a0 a w) (h0 : 0 < m.k) (hsz : 152 ≤ a.tmps.size) {i j x : Nat} {bx : Bool} (hi : i < m.k) (hj : j < m.k) (hx : x < m.L) (hL : 0 < m.L) (hbx : X i j = bx) {b : Nat} (hM : Mat w b m.k m.k 26 4 bs X) (e7 : a.eval (.tmp 7) = (Value.pointer (some ⟨m.bd, 0, none⟩))) (e9 : a.eval (.tmp 9) = (Value.slice (some ⟨b, 0, none⟩) m.k m.k)) (e13 : a.eval (.tmp 13) = (Value.int .i64 ((i : Nat) : Int))) (e14 : a.eval (.tmp 14) = (Value.int .i64 ((j : Nat) : Int))) (e15 : a.eval (.tmp 15) = (Value.int .i64 ((x : Nat) : Int))) (R : R30 ops) (hnew : ∀ i, i < m.k → w0.heap.size < bs i) (hb : b = w0.heap.size) {id : Nat} (Q : Exit → Act → World → Prop)
    (hQ : ∀ (a' : Act) (w' : World), Api w0 m a0 a' w' → Sq w0 m.k m.k bs (updM X i j (bx || X (m.nx i x) (m.nx j x))) w' → (∀ t : Nat, t < 93 → a'.eval (.tmp t) = a.eval (.tmp t)) → Q .normal a' w') : (Code.region id ops true).wp P Q a w := by
  subst hb
  have hA' : Api w0 m a0 a { w with drawn := w.drawn + 1 } := ⟨hA.tsz, hA.df, hA.e7, hA.e8, hA.e9, hA.size, hA.os, hA.tape, hA.output, hA.old⟩
  have hM' : Mat { w with drawn := w.drawn + 1 } w0.heap.size m.k m.k 26 4 bs X := ⟨hM.out, hM.row, hM.apart, hM.other⟩
  obtain ⟨w1, s1, s2, s3, s4, s5, s6, s7⟩ := hM'.store (P := P) hi hj (bx || X (m.nx i x) (m.nx j x)) T.c4
  refine drawn_wp (D := 93) (n := 36) (vals := vals30 m w0.heap.size bs X bx i j x) T.hm R.s (by omega) (fun t ht => ?_) R.p36 (by decide) (fun a' q1 q2 q3 o ho => s1 _ o _ _ ho ((q3 35 (by decide)).trans ?_) ((q3 34 (by decide)).trans rfl)) fun a' q1 q2 q3 => ?_
  · rcases (by omega : t = 0 ∨ t = 1 ∨ t = 2 ∨ t = 3 ∨ t = 4 ∨ t = 5 ∨ t = 6 ∨ t = 7 ∨ t = 8 ∨ t = 9 ∨ t = 10 ∨ t = 11 ∨ t = 12 ∨ t = 13 ∨ t = 14 ∨ t = 15 ∨ t = 16 ∨ t = 17 ∨ t = 18 ∨ t = 19 ∨ t = 20 ∨ t = 21 ∨ t = 22 ∨ t = 23 ∨ t = 24 ∨ t = 25 ∨ t = 26 ∨ t = 27 ∨ t = 28 ∨ t = 29 ∨ t = 30 ∨ t = 31 ∨ t = 32 ∨ t = 33 ∨ t = 34 ∨ t = 35) with rfl | rfl | rfl | rfl | rfl | rfl | rfl | rfl | rfl | rfl | rfl | rfl | rfl | rfl | rfl | rfl | rfl | rfl | rfl | rfl | rfl | rfl | rfl | rfl | rfl | rfl | rfl | rfl | rfl | rfl | rfl | rfl | rfl | rfl | rfl | rfl
    · exact op30_0 T hD hA' h0 hsz hi hj hx hL hbx hM' e7 e9 e13 e14 e15 R
    · exact op30_1 T hD hA' h0 hsz hi hj hx hL hbx hM' e7 e9 e13 e14 e15 R
    · exact op30_2 T hD hA' h0 hsz hi hj hx hL hbx hM' e7 e9 e13 e14 e15 R
    · exact op30_3 T hD hA' h0 hsz hi hj hx hL hbx hM' e7 e9 e13 e14 e15 R
    · exact op30_4 T hD hA' h0 hsz hi hj hx hL hbx hM' e7 e9 e13 e14 e15 R
    · exact op30_5 T hD hA' h0 hsz hi hj hx hL hbx hM' e7 e9 e13 e14 e15 R
    · exact op30_6 T hD hA' h0 hsz hi hj hx hL hbx hM' e7 e9 e13 e14 e15 R
    · exact op30_7 T hD hA' h0 hsz hi hj hx hL hbx hM' e7 e9 e13 e14 e15 R
    · exact op30_8 T hD hA' h0 hsz hi hj hx hL hbx hM' e7 e9 e13 e14 e15 R
    · exact op30_9 T hD hA' h0 hsz hi hj hx hL hbx hM' e7 e9 e13 e14 e15 R
    · exact op30_10 T hD hA' h0 hsz hi hj hx hL hbx hM' e7 e9 e13 e14 e15 R
    · exact op30_11 T hD hA' h0 hsz hi hj hx hL hbx hM' e7 e9 e13 e14 e15 R
    · exact op30_12 T hD hA' h0 hsz hi hj hx hL hbx hM' e7 e9 e13 e14 e15 R
    · exact op30_13 T hD hA' h0 hsz hi hj hx hL hbx hM' e7 e9 e13 e14 e15 R
    · exact op30_14 T hD hA' h0 hsz hi hj hx hL hbx hM' e7 e9 e13 e14 e15 R
    · exact op30_15 T hD hA' h0 hsz hi hj hx hL hbx hM' e7 e9 e13 e14 e15 R
    · exact op30_16 T hD hA' h0 hsz hi hj hx hL hbx hM' e7 e9 e13 e14 e15 R
    · exact op30_17 T hD hA' h0 hsz hi hj hx hL hbx hM' e7 e9 e13 e14 e15 R
    · exact op30_18 T hD hA' h0 hsz hi hj hx hL hbx hM' e7 e9 e13 e14 e15 R
    · exact op30_19 T hD hA' h0 hsz hi hj hx hL hbx hM' e7 e9 e13 e14 e15 R
    · exact op30_20 T hD hA' h0 hsz hi hj hx hL hbx hM' e7 e9 e13 e14 e15 R
    · exact op30_21 T hD hA' h0 hsz hi hj hx hL hbx hM' e7 e9 e13 e14 e15 R
    · exact op30_22 T hD hA' h0 hsz hi hj hx hL hbx hM' e7 e9 e13 e14 e15 R
    · exact op30_23 T hD hA' h0 hsz hi hj hx hL hbx hM' e7 e9 e13 e14 e15 R
    · exact op30_24 T hD hA' h0 hsz hi hj hx hL hbx hM' e7 e9 e13 e14 e15 R
    · exact op30_25 T hD hA' h0 hsz hi hj hx hL hbx hM' e7 e9 e13 e14 e15 R
    · exact op30_26 T hD hA' h0 hsz hi hj hx hL hbx hM' e7 e9 e13 e14 e15 R
    · exact op30_27 T hD hA' h0 hsz hi hj hx hL hbx hM' e7 e9 e13 e14 e15 R
    · exact op30_28 T hD hA' h0 hsz hi hj hx hL hbx hM' e7 e9 e13 e14 e15 R
    · exact op30_29 T hD hA' h0 hsz hi hj hx hL hbx hM' e7 e9 e13 e14 e15 R
    · exact op30_30 T hD hA' h0 hsz hi hj hx hL hbx hM' e7 e9 e13 e14 e15 R
    · exact op30_31 T hD hA' h0 hsz hi hj hx hL hbx hM' e7 e9 e13 e14 e15 R
    · exact op30_32 T hD hA' h0 hsz hi hj hx hL hbx hM' e7 e9 e13 e14 e15 R
    · exact op30_33 T hD hA' h0 hsz hi hj hx hL hbx hM' e7 e9 e13 e14 e15 R
    · exact op30_34 T hD hA' h0 hsz hi hj hx hL hbx hM' e7 e9 e13 e14 e15 R
    · exact op30_35 T hD hA' h0 hsz hi hj hx hL hbx hM' e7 e9 e13 e14 e15 R
  · show Value.pointer (some ⟨bs i, 0 + j * 1, none⟩) = _
    rw [show 0 + j * 1 = j by omega]
  · have hne : ∀ c, c < w0.heap.size → w1.heap[c]? = w0.heap[c]? := fun c hc => by
      rw [s4 c (by have := hnew i hi; omega)]; exact hA.old c hc
    exact hQ a' w1 ⟨q1.trans hA.tsz, q2.trans hA.df, (q3 7 (.inl (by decide))).trans hA.e7, (q3 8 (.inl (by decide))).trans hA.e8, (q3 9 (.inl (by decide))).trans hA.e9, by rw [s3]; exact hA.size, s5.trans hA.os, s6.trans hA.tape, s7.trans hA.output, hne⟩ ⟨s2, hnew⟩ fun t ht => q3 t (.inl ht)
end
end Go.Ab
