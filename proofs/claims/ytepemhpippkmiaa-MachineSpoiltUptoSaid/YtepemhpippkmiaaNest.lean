/- A slice of numbers of one's own that is appended to, as the machine does it. -/
import Derived.Test.YtepemhpippkmiaaJoin
namespace Go.Ab
open Go
set_option linter.unusedVariables false
set_option linter.unusedSimpArgs false

def ints (xs : List Int) : List Value := xs.map (Value.int .i64)
theorem ints_len (xs : List Int) : (ints xs).length = xs.length := by unfold ints; rw [List.length_map]

/-- a slice's header: nil, or a block of its own -/
def HdrAt (w : World) (et : TypeId) (v : Value) (xs : List Int) (bo : Option Nat) : Prop :=
  (bo = none ∧ xs = [] ∧ v = .slice none 0 0) ∨ ∃ b cap cur rest, bo = some b ∧ v = .slice (some ⟨b, 0, none⟩) xs.length cap ∧ w.heap[b]? = some (.cells cur et (0, 0)) ∧ cap ≤ cur.size ∧ xs.length ≤ cap ∧ cur.toList = ints xs ++ rest

theorem HdrAt.same {w w' : World} {et : TypeId} {v : Value} {xs : List Int} {bo : Option Nat} (h : HdrAt w et v xs bo) (hs : ∀ b, bo = some b → w'.heap[b]? = w.heap[b]?) : HdrAt w' et v xs bo := by
  rcases h with h | ⟨b, cap, cur, rest, h1, h2, h3, h4, h5, h6⟩
  · exact .inl h
  · exact .inr ⟨b, cap, cur, rest, h1, h2, (hs b h1).trans h3, h4, h5, h6⟩

theorem cell_arr {w : World} {b : Nat} {cur : Array Value} {et : TypeId} {fz : Nat × Nat} (h : w.heap[b]? = some (.cells cur et fz)) (i : Nat) : w.cell? ⟨b, i, none⟩ = cur[i]? := by
  unfold World.cell?
  simp only [h]
  simp
theorem heap_lt {w : World} {b : Nat} {c : Array Value} {et : TypeId} {fz : Nat × Nat} (h : w.heap[b]? = some (.cells c et fz)) : b < w.heap.size := by
  by_cases hb : b < w.heap.size
  · exact hb
  · rw [Array.getElem?_eq_none (Nat.le_of_not_lt hb)] at h; cases h

theorem HdrAt.first {P : Program} {w : World} {et : TypeId} {v : Value} {xs : List Int} {bo : Option Nat} (h : HdrAt w et v xs bo) : ∀ w2 : World, w2.heap = w.heap →
    (Builtin.lenOf v).run P w2 = .ok xs.length w2 ∧ (Builtin.firstCells (Ty.size (.int .i64)) xs.length v).run P w2 = .ok (ints xs).toArray w2 := by
  intro w2 hw
  rcases h with ⟨_, rfl, rfl⟩ | ⟨b, cap, cur, rest, _, rfl, h3, h4, h5, h6⟩
  · exact ⟨rfl, by simp [Builtin.firstCells, ints]⟩
  · refine ⟨rfl, ?_⟩
    simp only [Builtin.firstCells]
    have := run_loadCells_list (P := P) w2 ⟨b, 0, none⟩ (ints xs) (fun j u hj => by
      rw [addr_add]
      have hb : w2.heap[b]? = some (.cells cur et (0, 0)) := by rw [hw]; exact h3
      rw [cell_arr hb, ← Array.getElem?_toList, h6, show 0 + j = j by omega, List.getElem?_append_left (by
        by_cases hlt : j < (ints xs).length
        · exact hlt
        · rw [List.getElem?_eq_none (by omega)] at hj; cases hj), hj])
    rw [ints_len] at this
    simpa [Ty.size] using this

/-- one number is appended -/
theorem app_hdr {P : Program} {w : World} {tys : Array TypeId} {ty t et : TypeId} {inf : TypeInfo} {z : Value} (ht : tys[0]? = some t) (hz : appOk P tys = true) (hu : P.underlying t = some (.slice et)) (hs : cellsT P et = some (Ty.size (.int .i64)))
    (hinf : P.info? et = some inf) (hzero : inf.zero = some z) (hzs : z.cells.size = 1) (hb1 : 0 < inf.bytes) (hb2 : inf.bytes ≤ 4096) {v v2 : Value} {xs : List Int} {n : Int} {bo b2 : Option Nat} (h : HdrAt w et v xs bo) (h2 : HdrAt w et v2 [n] b2) (hm : xs.length + 1 < SMALL) :
    ∃ v' w' bo', (Builtin.append_ tys ty #[v, v2]).run P w = .ok v' w' ∧ HdrAt w' et v' (xs ++ [n]) bo' ∧ (bo' = bo ∨ bo' = some w.heap.size) ∧ (∃ b, bo' = some b) ∧ (∀ b, b < w.heap.size → bo ≠ some b → w'.heap[b]? = w.heap[b]?) ∧
      w.heap.size ≤ w'.heap.size ∧ (∀ b, bo' = some b → b < w'.heap.size) ∧ w'.os = w.os ∧ w'.tape = w.tape ∧ w'.output = w.output ∧ (∀ b o, (w.cell? ⟨b, o, none⟩).isSome → (w'.cell? ⟨b, o, none⟩).isSome) ∧ (∀ b o, (w.heap.size ≤ b ∨ bo = some b) → w'.heap[b]? = some o → Unfrozen o) := by
  have hl2 := fun w2 hw => (h2.first (P := P) w2 hw).1
  have hf2 := fun w2 hw => (h2.first (P := P) w2 hw).2
  have hf := fun w2 hw => (h.first (P := P) w2 hw).2
  have happ : ints (xs ++ [n]) = ints xs ++ ints [n] := by unfold ints; rw [List.map_append]
  have out : ∀ p cap, v = .slice p xs.length cap → cap < xs.length + 1 → ∃ v' w' bo', (Builtin.append_ tys ty #[v, v2]).run P w = .ok v' w' ∧ HdrAt w' et v' (xs ++ [n]) bo' ∧ (bo' = bo ∨ bo' = some w.heap.size) ∧ (∃ b, bo' = some b) ∧ (∀ b, b < w.heap.size → bo ≠ some b → w'.heap[b]? = w.heap[b]?) ∧
      w.heap.size ≤ w'.heap.size ∧ (∀ b, bo' = some b → b < w'.heap.size) ∧ w'.os = w.os ∧ w'.tape = w.tape ∧ w'.output = w.output ∧ (∀ b o, (w.cell? ⟨b, o, none⟩).isSome → (w'.cell? ⟨b, o, none⟩).isSome) ∧ (∀ b o, (w.heap.size ≤ b ∨ bo = some b) → w'.heap[b]? = some o → Unfrozen o) := fun p cap hv hc => by
    have hrun := run_append_out (P := P) (w := w) (ty := ty) (p := p) (n := xs.length) (m := 1) (cap := cap) (ds := ints [n]) (cs := ints xs) (v := v2) ht hz hu hs hinf hzero hb1 hb2 hl2 hf2 (fun w2 hw => by rw [← hv]; exact hf w2 hw) hc hm
    rw [← hv] at hrun
    have hge := grownCap_ge w (xs.length + 1) cap et
    refine ⟨_, _, some w.heap.size, hrun, .inr ⟨w.heap.size, _, _, (Builtin.zeroCells z.cells (grownCap w (xs.length + 1) cap et - (xs.length + 1))).toList, rfl, by rw [List.length_append]; rfl, push_eq (w := w.drew), ?_, by rw [List.length_append]; exact hge, ?_⟩, .inr rfl, ⟨_, rfl⟩, fun b hb _ => push_lt (w := w.drew) hb, ?_, ?_, rfl, rfl, rfl, ?_, ?_⟩
    · simp only [Array.size_append, List.size_toArray, size_zeroCells, hzs, ints_len, List.length_cons, List.length_nil]
      omega
    · rw [happ]; simp
    · exact Nat.le_of_lt (by simp [World.alloc])
    · intro b hb; cases hb; simp [World.alloc]
    · intro b o hc
      have hlt : b < w.heap.size := by
        cases hq : w.cell? ⟨b, o, none⟩ with
        | none => rw [hq] at hc; cases hc
        | some u => exact cell_lt hq
      have := cell_same (push_lt (w := w.drew) (o := .cells ((ints xs).toArray ++ (ints [n]).toArray ++ Builtin.zeroCells z.cells (grownCap w (xs.length + 1) cap et - (xs.length + 1))) et (0, 0)) hlt) o
      exact (congrArg Option.isSome this).trans hc
    · intro b o hb ho
      rcases hb with hb | hb
      · exact unfrozen_push (w := w) (unfrozen_cells (.inl rfl)) rfl b o (.inl hb) ho
      · rcases h with ⟨rfl, _, _⟩ | ⟨b', cap', cur, rest, rfl, _, h3, _⟩
        · cases hb
        · cases hb
          have hlt := heap_lt h3
          have ho : (w.heap.push _)[b]? = some o := ho
          rw [push_lt (w := w) hlt, h3] at ho
          cases ho
          exact unfrozen_cells (.inl rfl)
  rcases h with ⟨rfl, rfl, rfl⟩ | ⟨b, cap, cur, rest, rfl, rfl, h3, h4, h5, h6⟩
  · exact out none 0 rfl (by simp)
  · by_cases hroom : xs.length + 1 ≤ cap
    rotate_left
    · exact out _ cap rfl (by omega)
    obtain ⟨cur', q1, q2⟩ := run_storeRow (P := P) (b := b) (el := et) (fz := (0, 0)) xs.length (ints [n]) 0 cur w h3 (.inl rfl) (by rw [ints_len]; simp; omega) (by intro u hu; simp [ints] at hu; subst hu; rfl)
    have hrun := run_append_in (P := P) (w := w) (ty := ty) (p := some ⟨b, 0, none⟩) (n := xs.length) (m := 1) (cap := cap) (ds := ints [n]) (v := v2) (w' := { w with heap := w.heap.setIfInBounds b (.cells cur' et (0, 0)) }) ht hz hu hs (hl2 w rfl) (hf2 w rfl) hroom
      (by simp only [addr_add, Ty.size, Nat.mul_one, Nat.zero_add]; exact q1)
    have hblt := heap_lt h3
    have hnew : ({ w with heap := w.heap.setIfInBounds b (.cells cur' et (0, 0)) } : World).heap[b]? = some (.cells cur' et (0, 0)) := by
      show (w.heap.setIfInBounds b _)[b]? = _
      rw [Array.getElem?_setIfInBounds_self_of_lt hblt]
    have hsz : cur'.size = cur.size := by have := q2.1; simpa using this
    refine ⟨_, _, some b, hrun, .inr ⟨b, cap, cur', rest.drop 1, rfl, by rw [List.length_append]; rfl, hnew, by omega, by rw [List.length_append]; exact hroom, ?_⟩, .inl rfl, ⟨_, rfl⟩, fun b' hb' hne => ?_, by simp, fun b' hb' => by cases hb'; simpa using hblt, rfl, rfl, rfl, fun b' o hc => ?_, fun b' o hb' ho => ?_⟩
    · apply List.ext_getElem?
      intro i
      have hcl : cur.toList.length = xs.length + rest.length := by rw [h6, List.length_append, ints_len]
      have hcs : cur.toList.length = cur.size := by simp
      rw [q2.2.2 i, happ, List.append_assoc, h6]
      simp only [Nat.add_zero, ints_len, List.length_cons, List.length_nil]
      by_cases h1 : i < xs.length
      · rw [if_neg (by omega), List.getElem?_append_left (by rw [ints_len]; exact h1), List.getElem?_append_left (by rw [ints_len]; exact h1)]
      · by_cases h2 : i = xs.length
        · subst h2
          rw [if_pos (by omega), List.getElem?_append_right (by rw [ints_len]; omega), ints_len, Nat.sub_self]; rfl
        · rw [if_neg (by omega), List.getElem?_append_right (by rw [ints_len]; omega), List.getElem?_append_right (by rw [ints_len]; omega), ints_len, List.getElem?_append_right (by rw [ints_len]; simp; omega), ints_len, List.getElem?_drop]
          congr 1; simp; omega
    · show (w.heap.setIfInBounds b _)[b']? = _
      rw [Array.getElem?_setIfInBounds_ne (by intro q; exact hne (by rw [q]))]
    · by_cases hbb : b' = b
      · subst hbb
        exact cell_some_set h3 hsz o hc
      · rw [cell_same (w := w) (by show (w.heap.setIfInBounds b _)[b']? = _; rw [Array.getElem?_setIfInBounds_ne (fun q => hbb q.symm)]) o]; exact hc
    · rcases hb' with hb' | hb'
      · rw [Array.getElem?_eq_none (by simpa using hb')] at ho; cases ho
      · cases hb'
        rw [hnew] at ho; cases ho
        exact unfrozen_cells (.inl rfl)

/-- a list of such slices -/
structure Nst (w : World) (b n : Nat) (eo et : TypeId) (xss : Nat → List Int) (bs : Nat → Option Nat) : Prop where
  out : ∃ hs : Array Value, w.heap[b]? = some (.cells hs eo (0, 0)) ∧ hs.size = n ∧ ∀ i, i < n → ∃ v, hs[i]? = some v ∧ HdrAt w et v (xss i) (bs i)
  apart : ∀ i j c, i < n → j < n → bs i = some c → bs j = some c → i = j
  other : ∀ i c, i < n → bs i = some c → c ≠ b ∧ c < w.heap.size

theorem Nst.same {w w' : World} {b n : Nat} {eo et : TypeId} {xss : Nat → List Int} {bs : Nat → Option Nat} (h : Nst w b n eo et xss bs) (hs : w.heap.size ≤ w'.heap.size) (hb : w'.heap[b]? = w.heap[b]?) (hi : ∀ i c, i < n → bs i = some c → w'.heap[c]? = w.heap[c]?) : Nst w' b n eo et xss bs := by
  obtain ⟨hd, h1, h2, h3⟩ := h.out
  refine ⟨⟨hd, hb.trans h1, h2, fun i hin => ?_⟩, h.apart, fun i c hin hc => ?_⟩
  · obtain ⟨v, v1, v2⟩ := h3 i hin
    exact ⟨v, v1, v2.same fun c hc => hi i c hin hc⟩
  · have := h.other i c hin hc
    exact ⟨this.1, by omega⟩

/-- one of them has turned, and its header is put back -/
theorem Nst.put {w w1 w2 : World} {b n k : Nat} {eo et : TypeId} {xss : Nat → List Int} {bs : Nat → Option Nat} (h : Nst w b n eo et xss bs) (hk : k < n) {v' : Value} {ys : List Int} {bo : Option Nat}
    (hb : b < w.heap.size) (hv : HdrAt w1 et v' ys bo) (hbo : bo = bs k ∨ ∃ c, bo = some c ∧ w.heap.size ≤ c) (hbl : ∀ c, bo = some c → c < w1.heap.size) (hs1 : w.heap.size ≤ w1.heap.size) (hblk : ∀ c, c < w.heap.size → bs k ≠ some c → w1.heap[c]? = w.heap[c]?)
    {hd hd' : Array Value} (h1 : w1.heap[b]? = some (.cells hd eo (0, 0))) (h2 : w2 = { w1 with heap := w1.heap.setIfInBounds b (.cells hd' eo (0, 0)) }) (hd1 : hd'.size = hd.size) (hd2 : hd'[k]? = some v') (hd3 : ∀ i, i ≠ k → hd'[i]? = hd[i]?) :
    Nst w2 b n eo et (fun i => if i = k then ys else xss i) (fun i => if i = k then bo else bs i) := by
  obtain ⟨hd0, a1, a2, a3⟩ := h.out
  have hkb : bs k ≠ some b := fun q => (h.other k b hk q).1 rfl
  have e0 : hd0 = hd := by
    have := hblk b hb hkb
    rw [h1, a1] at this
    cases this; rfl
  subst e0
  have hb1 : b < w1.heap.size := by omega
  have hne : ∀ c, c ≠ b → w2.heap[c]? = w1.heap[c]? := fun c hc => by
    subst h2
    show (w1.heap.setIfInBounds b _)[c]? = _
    rw [Array.getElem?_setIfInBounds_ne (fun q => hc q.symm)]
  have hsz : w2.heap.size = w1.heap.size := by subst h2; simp
  have hbob : ∀ c, bo = some c → c ≠ b := fun c hc => by
    rcases hbo with q | ⟨c', q1, q2⟩
    · exact (h.other k c hk (by rw [← q]; exact hc)).1
    · rw [q1] at hc; cases hc; omega
  refine ⟨⟨hd', ?_, by omega, fun i hi => ?_⟩, fun i j c hi hj hic hjc => ?_, fun i c hi hc => ?_⟩
  · subst h2
    show (w1.heap.setIfInBounds b _)[b]? = _
    rw [Array.getElem?_setIfInBounds_self_of_lt hb1]
  · by_cases hik : i = k
    · subst hik
      rw [if_pos rfl, if_pos rfl]
      exact ⟨v', hd2, hv.same fun c hc => hne c (hbob c hc)⟩
    · rw [if_neg hik, if_neg hik, hd3 i hik]
      obtain ⟨v, v1, v2⟩ := a3 i hi
      refine ⟨v, v1, v2.same fun c hc => ?_⟩
      obtain ⟨o1, o2⟩ := h.other i c hi hc
      rw [hne c o1]
      exact hblk c o2 fun q => hik (h.apart i k c hi hk hc q)
  · by_cases hik : i = k
    · by_cases hjk : j = k
      · rw [hik, hjk]
      · rw [if_pos hik] at hic
        rw [if_neg hjk] at hjc
        exfalso
        rcases hbo with q | ⟨c', q1, q2⟩
        · exact hjk (h.apart j k c hj hk hjc (by rw [← q]; exact hic))
        · rw [q1] at hic; cases hic
          have := (h.other j c hj hjc).2; omega
    · by_cases hjk : j = k
      · rw [if_neg hik] at hic
        rw [if_pos hjk] at hjc
        exfalso
        rcases hbo with q | ⟨c', q1, q2⟩
        · exact hik (h.apart i k c hi hk hic (by rw [← q]; exact hjc))
        · rw [q1] at hjc; cases hjc
          have := (h.other i c hi hic).2; omega
      · rw [if_neg hik] at hic
        rw [if_neg hjk] at hjc
        exact h.apart i j c hi hj hic hjc
  · by_cases hik : i = k
    · rw [if_pos hik] at hc
      exact ⟨hbob c hc, by rw [hsz]; exact hbl c hc⟩
    · rw [if_neg hik] at hc
      obtain ⟨o1, o2⟩ := h.other i c hi hc
      exact ⟨o1, by omega⟩

/-! ### operations one by one -/
theorem wpOps_val {P : Program} {ops : Array Oper} {Q : Exit → Act → World → Prop} {i : Nat} {rest : List Nat} {a : Act} {w w' : World} {o : Oper} {u : Value} (ho : ops[i]? = some o) (hg : o.guard = none)
    (hr : (execOp a.eval o).run P w = .ok (.value u) w') (h : wpOps P ops Q rest (a.put o.dst u) w') : wpOps P ops Q (i :: rest) a w := by
  simp only [wpOps, ho]
  rw [if_pos (by simp [Region.wanted, hg])]
  left
  unfold Oper.wp
  rw [hr]
  exact h
theorem wpOps_skip {P : Program} {ops : Array Oper} {Q : Exit → Act → World → Prop} {i : Nat} {rest : List Nat} {a : Act} {w w' : World} {o : Oper} (ho : ops[i]? = some o) (hg : o.guard = none)
    (hr : (execOp a.eval o).run P w = .ok .skip w') (h : wpOps P ops Q rest (a.put o.dst undef) w') : wpOps P ops Q (i :: rest) a w := by
  simp only [wpOps, ho]
  rw [if_pos (by simp [Region.wanted, hg])]
  left
  unfold Oper.wp
  rw [hr]
  exact h
end Go.Ab
