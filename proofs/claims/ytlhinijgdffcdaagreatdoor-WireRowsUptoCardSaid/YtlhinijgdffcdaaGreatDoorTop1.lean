/- What a call's arguments read as, typed. -/
import Derived.Test.YtlhinijgdffcdaaGreatDoorFunc2
import Derived.ReadAgain
import Derived.ChangeSame
import Derived.OpenShut
import Derived.RowKit
namespace Go.Ab
open Go
set_option linter.unusedVariables false
set_option linter.unusedSimpArgs false
mutual
def bulkD {H : Type} : DataW H → Nat
  | .lit (.string bytes) => bytes.length + 1
  | .lit _ => 1
  | .nil => 1
  | .ptr d => bulkD d + 1
  | .slice elems spare => bulkDs elems + bulkDs spare + 1
  | .agg parts => bulkDs parts + 1
  | .iface _ d => bulkD d + 1
  | .map entries => bulkDe entries + 1
  | .held _ => 1
def bulkDs {H : Type} : List (DataW H) → Nat
  | [] => 0
  | d :: r => bulkD d + bulkDs r
def bulkDe {H : Type} : List (Lit × DataW H) → Nat
  | [] => 0
  | x :: r => bulkDp x + bulkDe r
def bulkDp {H : Type} : Lit × DataW H → Nat
  | (.string bytes, d) => bytes.length + bulkD d + 1
  | (_, d) => bulkD d + 1
end
mutual
def bulkR {α : Type} (f : α → Nat) : Rose α → Nat
  | .node x ks => f x + (bulkRs f ks + 1)
def bulkRs {α : Type} (f : α → Nat) : List (Rose α) → Nat
  | [] => 0
  | k :: r => bulkR f k + bulkRs f r
end
mutual
def okR {α : Type} (p : α → Prop) : Rose α → Prop
  | .node x ks => p x ∧ okRs p ks
def okRs {α : Type} (p : α → Prop) : List (Rose α) → Prop
  | [] => True
  | k :: r => okR p k ∧ okRs p r
end
theorem okRs_all {α : Type} {p : α → Prop} : ∀ {l : List (Rose α)}, okRs p l ↔ ∀ k ∈ l, okR p k
  | [] => by simp [okRs]
  | k :: r => by simp [okRs, okRs_all (p := p) (l := r)]
def Ty.noErr : Ty → Bool
  | .err | .rose _ | .nw _ => false
  | .slice e | .arr _ e => e.noErr
  | .pair a b => a.noErr && b.noErr
  | _ => true
def bulkT : (t : Ty) → t.den → Nat
  | .int _, _ => 1
  | .bool, _ => 1
  | .str, s => s.length + 1
  | .slice e, xs => (xs.map (bulkT e)).sum + 1
  | .arr _ e, xs => (xs.map (bulkT e)).sum + 1
  | .unit, _ => 0
  | .pair a b, x => bulkT a x.1 + bulkT b x.2
  | .rose a, x => bulkR (bulkT a) x
  | .err, _ => 1
  | .nw _, _ => 1
def okT : (t : Ty) → t.den → Prop
  | .int k, n => inK k n = true
  | .bool, _ => True
  | .str, s => ∀ c ∈ s, 0 ≤ c ∧ c ≤ 255
  | .slice e, xs => ∀ x ∈ xs, okT e x
  | .arr n e, xs => xs.length = n ∧ ∀ x ∈ xs, okT e x
  | .unit, _ => True
  | .pair a b, x => okT a x.1 ∧ okT b x.2
  | .rose a, x => okR (okT a) x
  | .err, _ => True
  | .nw k, n => inK k n = true
theorem bytesL_le (bs : ByteArray) : ∀ c ∈ bytesL bs, 0 ≤ c ∧ c ≤ 255 := by
  intro c hc
  unfold bytesL at hc
  obtain ⟨b, _, rfl⟩ := List.mem_map.1 hc
  have := b.toNat_lt
  omega
theorem Rt.okT {w : World} {ok : Ty → Nat → Prop} : ∀ {t : Ty} {cs : List Value} {x : t.den}, Rt w ok t cs x → okT t x := by
  intro t
  induction t with
  | nw k => intro cs x h; exact h.2
  | int k => intro cs x h; exact h.2
  | bool => intro cs x h; trivial
  | str => intro cs x h; obtain ⟨bs, _, rfl, _⟩ := h; exact bytesL_le bs
  | slice e ih =>
    intro cs x h
    obtain ⟨a, c, _, _, _, h4⟩ := h
    intro y hy
    rcases h4 with h4 | ⟨b, o, _, _, _, hel⟩
    · rw [h4] at hy; cases hy
    · obtain ⟨i, hi, rfl⟩ := List.getElem_of_mem hy
      obtain ⟨ecs, _, hr⟩ := hel i hi
      exact ih hr
  | arr n e ih =>
    intro cs x h
    obtain ⟨hl, css, _, _, hel⟩ := h
    refine ⟨hl, fun y hy => ?_⟩
    obtain ⟨i, hi, rfl⟩ := List.getElem_of_mem hy
    obtain ⟨ecs, _, hr⟩ := hel i hi
    exact ih hr
  | unit => intro cs x h; trivial
  | pair a b iha ihb =>
    intro cs x h
    obtain ⟨c1, c2, _, h1, h2⟩ := h
    exact ⟨iha h1, ihb h2⟩
  | rose a ih =>
    intro cs x h
    show okR (Ab.okT a) x
    have h' : RtR w (ok (.rose a)) (a.size + 1) (Rt w ok a) x cs := h
    clear h
    induction h' with
    | leaf h1 => exact ⟨ih h1, trivial⟩
    | node e h1 hc hm hk hb hl hr ihr =>
      refine ⟨ih h1, okRs_all.2 fun k hk => ?_⟩
      obtain ⟨i, hi, rfl⟩ := List.getElem_of_mem hk
      exact ihr i hi
  | err => intro cs x h; trivial
theorem pick {α : Type} {Q : Nat → α → Prop} : ∀ (n : Nat), (∀ i, i < n → ∃ y, Q i y) → ∃ ys : List α, ys.length = n ∧ ∀ i (h : i < ys.length), Q i ys[i]
  | 0, _ => ⟨[], rfl, fun i h => by simp at h⟩
  | n + 1, h => by
    obtain ⟨ys, h1, h2⟩ := pick n fun i hi => h i (by omega)
    obtain ⟨y, hy⟩ := h n (by omega)
    refine ⟨ys ++ [y], by simp [h1], fun i hi => ?_⟩
    simp only [List.length_append, List.length_cons, List.length_nil] at hi
    by_cases hlt : i < ys.length
    · rw [List.getElem_append_left hlt]; exact h2 i hlt
    · have : i = ys.length := by omega
      subst this
      rw [List.getElem_append_right (Nat.le_refl _)]
      simp only [Nat.sub_self, List.getElem_cons_zero]
      rw [h1]; exact hy
theorem chunks_flat {α : Type} (sz : Nat) : ∀ (n : Nat) (cs : List α), cs.length = n * sz → ((List.range n).map fun i => (cs.drop (i * sz)).take sz).flatten = cs
  | 0, cs, h => by
    have : cs = [] := List.length_eq_zero_iff.1 (by omega)
    subst this; rfl
  | n + 1, cs, h => by
    have hm : (n + 1) * sz = n * sz + sz := Nat.succ_mul _ _
    rw [List.range_succ_eq_map, List.map_cons, List.flatten_cons, List.map_map]
    have e : ((fun i => (cs.drop (i * sz)).take sz) ∘ Nat.succ) = fun i => ((cs.drop sz).drop (i * sz)).take sz := by
      funext i
      simp only [Function.comp, List.drop_drop]
      have : sz + i * sz = i.succ * sz := by rw [Nat.succ_mul]; omega
      rw [this]
    rw [e, chunks_flat sz n (cs.drop sz) (by rw [List.length_drop]; omega)]
    simp
theorem sum_le : ∀ {n : Nat} {a b : List Nat}, a.length = b.length → (∀ i (h : i < a.length) (h' : i < b.length), a[i] ≤ b[i]) → a.sum ≤ b.sum
  | _, [], [], _, _ => Nat.le_refl _
  | n, x :: a, y :: b, hl, h => by
    have h0 := h 0 (by simp) (by simp)
    have := sum_le (n := n) (a := a) (b := b) (by simpa using hl) fun i h1 h2 => by
      have := h (i + 1) (by simp; omega) (by simp; omega)
      simpa using this
    simp only [List.getElem_cons_zero] at h0
    simp only [List.sum_cons]
    omega
theorem bulkDs_sum {H : Type} : ∀ (l : List (DataW H)), bulkDs l = (l.map bulkD).sum
  | [] => rfl
  | d :: r => by simp [bulkDs, bulkDs_sum r]
section
variable {H : Type} {enc : TypeId × Value → H} {P : Program} {w : World} {base : Nat} {spare : Nat → Bool} {held : Bool} {T : TypeId → Prop}
theorem mapM_get {α β : Type} {f : α → Option β} : ∀ {l : List α} {r : List β}, l.mapM f = some r → r.length = l.length ∧ ∀ (i : Nat) x, l[i]? = some x → f x = r[i]?
  | [], r, h => by simp at h; subst h; exact ⟨rfl, by simp⟩
  | x :: l, r, h => by
    rw [List.mapM_cons] at h
    cases hx : f x with
    | none => simp [hx] at h
    | some y =>
      cases hl : l.mapM f with
      | none => simp [hx, hl] at h
      | some ys =>
        simp [hx, hl] at h
        subst h
        obtain ⟨h1, h2⟩ := mapM_get hl
        refine ⟨by simp [h1], fun i z hz => ?_⟩
        cases i with
        | zero => simp at hz; subst hz; simpa using hx
        | succ i => simpa using h2 i z (by simpa using hz)
theorem cells_lies {a : Addr} {n : Nat} {cs : List Value} (h : w.cells? base a n = some cs) (hn : 0 < n) : a.spot = none ∧ a.block < w.heap.size ∧ cs.length = n ∧ Lies w a.block a.off cs := by
  unfold World.cells? at h
  split at h <;> try contradiction
  obtain ⟨h1, h2⟩ := mapM_get h
  have h3 : ∀ i, i < n → w.cell? (a.add i) = cs[i]? := fun i hi => h2 i i (by simp [hi])
  have hl : cs.length = n := by rw [h1]; simp
  have h0 := h3 0 hn
  rw [List.getElem?_eq_getElem (by omega)] at h0
  have ha0 : a.add 0 = a := by unfold Addr.add; simp
  rw [ha0] at h0
  have hspot : a.spot = none := by
    unfold World.cell? at h0
    split at h0
    · cases hs : a.spot with
      | none => rfl
      | some s => rw [hs] at h0; simp at h0
    · cases h0
  have ha : a = ⟨a.block, a.off, none⟩ := by cases a; simp_all
  refine ⟨hspot, World.block_lt_of_cell? w a (by rw [h0]), hl, fun i v hv => ?_⟩
  have hi : i < n := by rw [← hl]; exact (List.getElem?_eq_some_iff.1 hv).1
  have := h3 i hi
  rw [hv] at this
  rw [ha] at this
  have e : (⟨a.block, a.off, none⟩ : Addr).add i = ⟨a.block, a.off + i, none⟩ := addr_add _ _ _
  rw [e] at this
  exact this
theorem flds_rt {cs : List Value} {n : Nat} (ih : ∀ {t : TypeId} {cs : List Value} {x : DataW H × List MemPlace} {m : Nat} {ty : Ty}, ty.noErr = true → T t → tyOf P m t = some ty → DataW.trod enc P w base spare held n t cs = some x → bulkD x.1 ≤ MAXL → ∃ y : ty.den, Rt w (fun _ _ => True) ty cs y ∧ bulkT ty y ≤ bulkD x.1) :
    ∀ (fs : List Field) (off : Nat) (xs : List (DataW H × List MemPlace)) (m : Nat) (ty : Ty), ty.noErr = true → tyFs P m fs = some ty → xs.length = fs.length → (∀ f ∈ fs, T f.type) →
      (∀ (j : Nat) f, fs[j]? = some f → f.offset = off + ((fs.take j).map fun f => P.cellsOf f.type).sum ∧ DataW.trod enc P w base spare held n f.type ((cs.drop f.offset).take (P.cellsOf f.type)) = xs[j]?) →
      cs.length = off + (fs.map fun f => P.cellsOf f.type).sum → bulkDs (xs.map (·.1)) ≤ MAXL → ∃ y : ty.den, Rt w (fun _ _ => True) ty (cs.drop off) y ∧ bulkT ty y ≤ bulkDs (xs.map (·.1)) := by
  intro fs
  induction fs with
  | nil =>
    intro off xs m ty hne h hl hT hx hlen hbk
    cases m with
    | zero => simp [tyFs] at h
    | succ m =>
      simp only [tyFs, Option.some.injEq] at h
      subst h
      simp at hlen
      exact ⟨(), by show cs.drop off = []; rw [List.drop_eq_nil_of_le (by omega)], Nat.zero_le _⟩
  | cons f r ihr =>
    intro off xs m ty hne h hl hT hx hlen hbk
    cases m with
    | zero => simp [tyFs] at h
    | succ m =>
      simp only [tyFs] at h
      split at h <;> try contradiction
      rename_i a b ha hb
      simp only [Option.some.injEq] at h
      subst h
      simp only [Ty.noErr, Bool.and_eq_true] at hne
      match xs, hl with
      | x0 :: xs, hl =>
        obtain ⟨h1, h2⟩ := hx 0 f rfl
        simp only [List.take_zero, List.map_nil, List.sum_nil, Nat.add_zero] at h1
        rw [h1] at h2
        simp only [List.getElem?_cons_zero] at h2
        simp only [List.map_cons, bulkDs] at hbk
        obtain ⟨y1, r1, r2⟩ := ih hne.1 (hT f (by simp)) ha h2 (by omega)
        simp only [List.map_cons, List.sum_cons] at hlen
        obtain ⟨y2, r3, r4⟩ := ihr (off + P.cellsOf f.type) xs m b hne.2 hb (by simpa using hl) (fun g hg => hT g (by simp [hg])) (fun j g hg => by
          obtain ⟨q1, q2⟩ := hx (j + 1) g (by simpa using hg)
          refine ⟨?_, by simpa using q2⟩
          rw [q1]
          simp only [List.take_succ_cons, List.map_cons, List.sum_cons]
          omega) (by omega) (by omega)
        refine ⟨(y1, y2), ⟨_, _, ?_, r1, r3⟩, ?_⟩
        · rw [← List.drop_drop, List.take_append_drop]
        · simp only [bulkT, List.map_cons, bulkDs]
          omega
theorem trod_rt (K : Kids P T) (hz : ∀ t e, T t → P.underlying t = some (.slice e) → 0 < P.cellsOf e) : ∀ (n : Nat) {t : TypeId} {cs : List Value} {x : DataW H × List MemPlace} {m : Nat} {ty : Ty}, ty.noErr = true → T t → tyOf P m t = some ty →
    DataW.trod enc P w base spare held n t cs = some x → bulkD x.1 ≤ MAXL → ∃ y : ty.den, Rt w (fun _ _ => True) ty cs y ∧ bulkT ty y ≤ bulkD x.1 := by
  intro n
  induction n with
  | zero => intro t cs x m ty hne hT hty h _; simp [DataW.trod] at h
  | succ n ih =>
    intro t cs x m ty hne hT hty h hbk
    cases m with
    | zero => simp [tyOf] at hty
    | succ m =>
      simp only [tyOf] at hty
      split at hty <;> try contradiction
      · rename_i k hu
        simp only [Option.some.injEq] at hty; subst hty
        obtain ⟨v, rfl, rfl, hwf⟩ := DataW.trod_int hu h
        refine ⟨v, ⟨rfl, ?_⟩, Nat.le_refl _⟩
        rw [inK_iff]
        simpa [Lit.wf] using hwf
      · rename_i hu
        simp only [Option.some.injEq] at hty; subst hty
        obtain ⟨b, rfl, rfl⟩ := DataW.trod_bool hu h
        exact ⟨b, rfl, Nat.le_refl _⟩
      · rename_i hu
        simp only [Option.some.injEq] at hty; subst hty
        obtain ⟨bs, rfl, rfl, hs⟩ := DataW.trod_string hu h
        have hl : (bytesL bs).length = bs.size := bytesL_length bs
        refine ⟨bytesL bs, ⟨bs, rfl, rfl, ?_⟩, ?_⟩
        · rw [hl]
          simp only [bulkD] at hbk
          have : bs.data.toList.length = bs.size := by simp
          omega
        · simp only [bulkT, bulkD, bytesL, List.length_map]
          exact Nat.le_refl _
      · rename_i e hu
        rw [Option.map_eq_some_iff] at hty
        obtain ⟨te, hte, rfl⟩ := hty
        rcases DataW.trod_slice hu h with ⟨rfl, rfl⟩ | ⟨a, len, cap, elems, rest, n', hn, rfl, rfl, hb, hlc, hcm, hel, hat, _, _⟩
        · exact ⟨[], ⟨none, 0, rfl, Nat.le_refl _, Nat.zero_le _, .inl rfl⟩, by simp [bulkT, bulkD]⟩
        · obtain rfl : n = n' := by omega
          have hsz := hz t e hT hu
          simp only [bulkD, bulkDs_sum] at hbk
          have mem_le : ∀ (l : List Nat) k, k ∈ l → k ≤ l.sum := by
            intro l
            induction l with
            | nil => intro k hk; cases hk
            | cons x r ih => intro k hk; rcases List.mem_cons.1 hk with rfl | hk
                             · simp
                             · have := ih k hk; simp; omega
          have hbe : ∀ i (hi : i < elems.length), bulkD elems[i].1 ≤ MAXL := by
            intro i hi
            have := mem_le _ _ (List.mem_map.2 ⟨elems[i].1, List.mem_map.2 ⟨elems[i], List.getElem_mem hi, rfl⟩, rfl⟩ : bulkD elems[i].1 ∈ ((elems.map (·.1)).map bulkD))
            omega
          have hbl : elems.length ≤ MAXL := by
            have h1 : ∀ (l : List (DataW H)), l.length ≤ (l.map bulkD).sum := by
              intro l
              induction l with
              | nil => exact Nat.le_refl _
              | cons d r ih =>
                have : 1 ≤ bulkD d := by
                  cases d with
                  | lit l => cases l <;> simp [bulkD]
                  | _ => simp [bulkD]
                simp; omega
            have := h1 (elems.map (·.1))
            simp only [List.length_map] at this
            omega
          have one : ∀ i, i < len → ∃ y : te.den, (∃ ecs, Lies w a.block (a.off + i * te.size) ecs ∧ Rt w (fun _ _ => True) te ecs y) ∧ a.spot = none ∧ a.block < w.heap.size ∧ bulkT te y ≤ bulkDs ((elems[i]?).toList.map (·.1)) := by
            intro i hi
            have hi2 := hat i hi
            rw [List.getElem?_eq_getElem (by omega), Option.bind_eq_some_iff] at hi2
            obtain ⟨ecs, q1, q2⟩ := hi2
            obtain ⟨y, q3, q4⟩ := ih (by simpa [Ty.noErr] using hne) (K.slice hT hu) hte q2 (hbe i (by omega))
            obtain ⟨s1, s2, s3, s4⟩ := cells_lies q1 hsz
            have hte2 : P.cellsOf e = te.size := by rw [← s3]; exact Rt.length q3
            have hsp : a.spot = none := by
              by_cases h0 : i * P.cellsOf e = 0
              · rw [h0] at s1; unfold Addr.add at s1; simpa using s1
              · have h0' := hat 0 (by omega)
                rw [List.getElem?_eq_getElem (by omega), Option.bind_eq_some_iff] at h0'
                obtain ⟨ecs0, t1, _⟩ := h0'
                obtain ⟨u1, _⟩ := cells_lies t1 hsz
                rw [Nat.zero_mul] at u1
                unfold Addr.add at u1; simpa using u1
            have hadd : a.add (i * P.cellsOf e) = ⟨a.block, a.off + i * P.cellsOf e, none⟩ := by
              have : a = ⟨a.block, a.off, none⟩ := by cases a; simp_all
              rw [this]; exact addr_add _ _ _
            rw [hadd] at s2 s4
            rw [List.getElem?_eq_getElem (by omega)]
            refine ⟨y, ⟨ecs, by rw [← hte2]; exact s4, q3⟩, hsp, s2, ?_⟩
            simpa [bulkDs] using q4
          obtain ⟨ys, p1, p2⟩ := pick len one
          refine ⟨ys, ⟨some a, cap, by rw [p1], by omega, ?_, ?_⟩, ?_⟩
          · omega
          · by_cases h0 : len = 0
            · left; exact List.length_eq_zero_iff.1 (by omega)
            · right
              obtain ⟨_, s1, s2, _⟩ := p2 0 (by omega)
              refine ⟨a.block, a.off, by cases a; simp_all, trivial, s2, fun i hi => (p2 i hi).1⟩
          · simp only [bulkT, bulkD, bulkDs_sum]
            have : (ys.map (bulkT te)).sum ≤ ((elems.map (·.1)).map bulkD).sum := by
              refine sum_le (n := 0) (by simp [p1, hel]) fun i h1 h2 => ?_
              have h1' : i < ys.length := by simpa using h1
              have := (p2 i h1').2.2.2
              rw [List.getElem?_eq_getElem (by omega)] at this
              simpa [bulkDs] using this
            omega
      · rename_i len e hu
        rw [Option.map_eq_some_iff] at hty
        obtain ⟨te, hte, rfl⟩ := hty
        obtain ⟨xs, n', hn, rfl, hlen, hxl, hat⟩ := DataW.trod_array hu h
        obtain rfl : n = n' := by omega
        obtain ⟨k1, k2⟩ := K.array hT hu
        simp only [bulkD, bulkDs_sum] at hbk
        have mem_le : ∀ (l : List Nat) k, k ∈ l → k ≤ l.sum := by
          intro l
          induction l with
          | nil => intro k hk; cases hk
          | cons x r ih => intro k hk; rcases List.mem_cons.1 hk with rfl | hk
                           · simp
                           · have := ih k hk; simp; omega
        have hbe : ∀ i (hi : i < xs.length), bulkD xs[i].1 ≤ MAXL := by
          intro i hi
          have := mem_le _ _ (List.mem_map.2 ⟨xs[i].1, List.mem_map.2 ⟨xs[i], List.getElem_mem hi, rfl⟩, rfl⟩ : bulkD xs[i].1 ∈ ((xs.map (·.1)).map bulkD))
          omega
        have one : ∀ i, i < len → ∃ y : te.den, Rt w (fun _ _ => True) te ((cs.drop (i * P.cellsOf e)).take (P.cellsOf e)) y ∧ bulkT te y ≤ bulkDs ((xs[i]?).toList.map (·.1)) := by
          intro i hi
          have hi2 := hat i hi
          rw [List.getElem?_eq_getElem (by omega)] at hi2 ⊢
          obtain ⟨y, q3, q4⟩ := ih (by simpa [Ty.noErr] using hne) k1 hte hi2 (hbe i (by omega))
          exact ⟨y, q3, by simpa [bulkDs] using q4⟩
        obtain ⟨ys, p1, p2⟩ := pick len one
        refine ⟨ys, ⟨p1, (List.range len).map fun i => (cs.drop (i * P.cellsOf e)).take (P.cellsOf e), ?_, by simp, fun i hi => ⟨_, ?_, (p2 i hi).1⟩⟩, ?_⟩
        · rw [chunks_flat _ _ _ (by rw [hlen, k2])]
        · rw [List.getElem?_map, List.getElem?_range (by omega)]; rfl
        · simp only [bulkT, bulkD, bulkDs_sum]
          have : (ys.map (bulkT te)).sum ≤ ((xs.map (·.1)).map bulkD).sum := by
            refine sum_le (n := 0) (by simp [p1, hxl]) fun i h1 h2 => ?_
            have h1' : i < ys.length := by simpa using h1
            have := (p2 i h1').2
            rw [List.getElem?_eq_getElem (by omega)] at this
            simpa [bulkDs] using this
          omega
      · rename_i fs hu
        obtain ⟨xs, n', hn, rfl, hlen, hxl, hat⟩ := DataW.trod_struct hu h
        obtain rfl : n = n' := by omega
        obtain ⟨k1, k2, k3⟩ := K.struct hT hu
        split at hty
        · rename_i q hq
          rw [Option.map_eq_some_iff] at hty
          obtain ⟨A, hA, rfl⟩ := hty
          simp [Ty.noErr] at hne
        obtain ⟨y, q1, q2⟩ := flds_rt (cs := cs) ih fs.toList 0 xs m ty hne hty (by simpa using hxl) k1 (fun j f hf => ⟨by rw [Nat.zero_add]; exact k3 j f hf, hat j f (by simpa using hf)⟩) (by rw [Nat.zero_add, hlen, k2]) (by simp only [bulkD] at hbk; omega)
        rw [List.drop_zero] at q1
        exact ⟨y, q1, by simp only [bulkD]; omega⟩
      · split at hty
        · cases hty
        · cases hty; simp [Ty.noErr] at hne
end
end Go.Ab
