/- A copy of a slice: what 'slices.Clone' leaves. -/
import Derived.Test.YtlhinijgdffcdaaDoorKnot
import Derived.Laws.AppendOwn
import Derived.Below
namespace Go.Ab
open Go Go.RowKit
set_option linter.unusedVariables false
set_option linter.unusedSimpArgs false

theorem cell_some_lt {w : World} {b o : Nat} (h : (w.cell? ⟨b, o, none⟩).isSome = true) : b < w.heap.size := by
  apply Classical.byContradiction
  intro hn
  have hn' : w.heap.size ≤ b := by omega
  simp [World.cell?, Array.getElem?_eq_none hn'] at h

section
variable {R : Type} {P : Program} {gl : Nat → Option S} {raw : FuncId → Bool} {f : FuncId}

/-- from two walks (of nil, and of a slice that is not nil) to what a call comes to; elements of one cell -/
theorem clone_ok {e : Ty} {el : TypeId} (val : e.den → Value) (hsz : e.size = 1)
    (hval : ∀ {w : World} {ok : Ty → Nat → Prop} {ecs : List Value} {x : e.den}, Rt w ok e ecs x → ecs = [val x])
    (hind : ∀ {w w' : World} {ok ok' : Ty → Nat → Prop} {ecs : List Value} {x : e.den}, Rt w ok e ecs x → Rt w' ok' e ecs x)
    (enter : ∀ (as : Array Value) (w : World), (callFunc f as).run P w = .ok (.enter f as) w)
    (hnil : ∀ (n c : Nat) (w : World), Calls P f #[.slice none n c] w fun en w' => en = .returned (.slice none 0 0) ∧ w' = w)
    (hsome : ∀ (ad : Addr) (c : Nat) (xs : List e.den) (w : World), xs.length < SMALL → (∀ j u, (xs.map val)[j]? = some u → w.cell? (ad.add j) = some u) →
      Calls P f #[.slice (some ad) xs.length c] w fun en w' => ∃ v', en = .returned v' ∧ w'.ownsRow w.heap.size el 1 v' xs.length (xs.map val) ∧ Below w.heap.size w w')
    {xs : List e.den} {K : S → List Ent → Option R} {r : R} (h : gd (decide (xs.length < SMALL)) (K (.own e 0) [.buf e xs false]) = some r) :
    ∃ v es', FnOk P gl f (npF raw f []) [.sl e xs] [] v es' ∧ K v es' = some r := by
  have hs : xs.length < SMALL := by
    apply Classical.byContradiction
    intro hn
    rw [decide_eq_false hn] at h
    exact no_some h
  rw [decide_eq_true hs] at h
  have hnp : npF raw f [] = 0 := by unfold npF; split <;> rfl
  refine ⟨_, _, ⟨enter, ?_⟩, h⟩
  rw [hnp]
  intro E w vs hgl hin
  obtain ⟨v, q, rfl, hv, hq⟩ := hin.vals
  cases hq
  have hv : Rt w (E.ok (tbOf [])) (.slice e) [v] xs := hv
  simp only [Rt] at hv
  obtain ⟨a, cap, hv1, hcap, hmax, hxs⟩ := hv
  simp only [List.cons.injEq, and_true] at hv1
  subst hv1
  cases a with
  | none =>
    have hx : xs = [] := by
      rcases hxs with h | ⟨b, o, h, _⟩
      · exact h
      · cases h
    subst hx
    refine Calls.mono (hnil _ _ w) ?_
    rintro en w' ⟨rfl, rfl⟩
    refine ⟨_, { E with κ := fun _ => none }, rfl, ?_⟩
    refine ⟨⟨none, 0, rfl, Nat.le_refl _, rfl⟩, ?_, ?_, rfl, rfl, ?_, ?_, ?_, ?_⟩
    · intro k e' he
      cases k with
      | zero =>
        simp only [List.getElem?_cons_zero, Option.some.injEq] at he
        subst he
        exact ⟨Nat.zero_le _, rfl⟩
      | succ k => simp at he
    · intro k j p q e' f' h1; cases h1
    · intro k hk; omega
    · intro k hk; omega
    · exact ⟨rfl, rfl, rfl, Nat.le_refl _, fun _ _ _ => rfl, fun _ _ h => h, fun _ _ _ h => h⟩
    · intro k p e' h1; cases h1
  | some ad =>
    have hcells : ∀ j u, (xs.map val)[j]? = some u → w.cell? (ad.add j) = some u := by
      intro j u hu
      rw [List.getElem?_map, Option.map_eq_some_iff] at hu
      obtain ⟨x, hx, rfl⟩ := hu
      obtain ⟨hj, hx'⟩ := List.getElem?_eq_some_iff.1 hx
      rcases hxs with rfl | ⟨b, o, h1, _, _, h4⟩
      · simp at hj
      · simp only [Option.some.injEq] at h1
        subst h1
        obtain ⟨ecs, g1, g2⟩ := h4 j hj
        rw [hx'] at g2
        have := hval g2
        subst this
        have := g1 0 (val x) rfl
        rw [hsz] at this
        have e1 : o + j * 1 + 0 = o + j := by omega
        rw [e1] at this
        rw [Addr.add_lit]
        exact this
    refine Calls.mono (hsome ad cap xs w hs hcells) ?_
    rintro en w' ⟨v', rfl, ⟨hlen, hrow⟩, hbel⟩
    have hhist : Hist w (ownsB E [] · false) w' := ⟨hbel.os, hbel.tape, hbel.output, hbel.size, fun b hb _ => hbel.block b hb, fun b o h => by
      have hb := cell_some_lt h
      have : w'.cell? ⟨b, o, none⟩ = w.cell? ⟨b, o, none⟩ := by unfold World.cell?; simp only [hbel.block b hb]
      rw [this]; exact h, fun b o hb h => by
      have : w'.cell? ⟨b, o, none⟩ = w.cell? ⟨b, o, none⟩ := by unfold World.cell?; simp only [hbel.block b hb]
      rw [this] at h; exact h⟩
    rcases hrow with ⟨rfl, h0⟩ | ⟨g, c2, cur, rfl, hg, hblk, hn, hc2, hcs, htake⟩
    · have hx : xs = [] := List.length_eq_zero_iff.1 h0
      subst hx
      refine ⟨_, { E with κ := fun _ => none }, rfl, ?_⟩
      refine ⟨⟨none, 0, rfl, Nat.le_refl _, rfl⟩, ?_, ?_, rfl, rfl, ?_, ?_, hhist, ?_⟩
      · intro k e' he
        cases k with
        | zero =>
          simp only [List.getElem?_cons_zero, Option.some.injEq] at he
          subst he
          exact ⟨Nat.zero_le _, rfl⟩
        | succ k => simp at he
      · intro k j p q e' f' h1; cases h1
      · intro k hk; omega
      · intro k hk; omega
      · intro k p e' h1; cases h1
    · have hglt : g < w'.heap.size := by
        apply Classical.byContradiction
        intro hn
        rw [Array.getElem?_eq_none (by omega)] at hblk
        cases hblk
      have hcell : ∀ i v, cur[i]? = some v → w'.cell? ⟨g, i, none⟩ = some v := by
        intro i v hv
        simp [World.cell?, hblk, hv]
      refine ⟨_, { E with κ := fun k => if k = 0 then some (g, 0) else none }, rfl, ?_⟩
      refine ⟨⟨some ⟨g, 0, none⟩, c2, rfl, hn, rfl, ?_, hc2⟩, ?_, ?_, rfl, rfl, ?_, ?_, hhist, ?_⟩
      · intro i hi
        rw [hsz, Nat.mul_one] at hi
        have hi' : i < cur.size := by omega
        rw [Nat.zero_add, hcell i cur[i] (Array.getElem?_eq_getElem hi')]
        rfl
      · intro k e' he
        cases k with
        | zero =>
          simp only [List.getElem?_cons_zero, Option.some.injEq] at he
          subst he
          refine ⟨hmax, ?_⟩
          show g < w'.heap.size ∧ (∀ t, ¬ E.av t g) ∧ _
          refine ⟨hglt, fun t hav => ?_, fun _ => ⟨cur, el, 0, 0, hblk, .inl rfl⟩, fun i hi => ?_⟩
          · have := hin.avlt t g hav; omega
          · have hxi : (xs.map val)[i]? = some (val xs[i]) := by rw [List.getElem?_map, List.getElem?_eq_getElem hi]; rfl
            rw [← htake, List.getElem?_take, if_pos (by omega)] at hxi
            have hcur : cur[i]? = some (val xs[i]) := by simpa using hxi
            refine ⟨[val xs[i]], ?_, ?_⟩
            · intro j v hv
              cases j with
              | zero =>
                simp only [List.getElem?_cons_zero, Option.some.injEq] at hv
                subst hv
                rw [hsz]
                have e1 : 0 + i * 1 + 0 = i := by omega
                rw [e1]
                exact hcell i _ hcur
              | succ j => simp at hv
            · rcases hxs with rfl | ⟨b, o, h1, _, _, h4⟩
              · simp at hi
              · obtain ⟨ecs, g1, g2⟩ := h4 i hi
                have := hval g2
                subst this
                exact hind g2
        | succ k => simp at he
      · intro k j p q e' f' h1 h2 h3 h4 _
        cases k with
        | succ k => simp at h3
        | zero =>
          cases j with
          | succ j => simp at h4
          | zero => rfl
      · intro k hk; omega
      · intro k hk; omega
      · intro k p e' h1 _
        left
        simp only at h1
        split at h1
        · simp only [Option.some.injEq] at h1; subst h1; exact hg
        · cases h1
end

theorem u8_val {w : World} {ok : Ty → Nat → Prop} {k : IntKind} {ecs : List Value} {x : Int} (h : Rt w ok (.int k) ecs x) : ecs = [.int k x] := h.1
theorem u8_ind {w w' : World} {ok ok' : Ty → Nat → Prop} {k : IntKind} {ecs : List Value} {x : Int} (h : Rt w ok (.int k) ecs x) : Rt w' ok' (.int k) ecs x := h
theorem bool_val {w : World} {ok : Ty → Nat → Prop} {ecs : List Value} {x : Bool} (h : Rt w ok .bool ecs x) : ecs = [.bool x] := h
theorem bool_ind {w w' : World} {ok ok' : Ty → Nat → Prop} {ecs : List Value} {x : Bool} (h : Rt w ok .bool ecs x) : Rt w' ok' .bool ecs x := h
end Go.Ab
