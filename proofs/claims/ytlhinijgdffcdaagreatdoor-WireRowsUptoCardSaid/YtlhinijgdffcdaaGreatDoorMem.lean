/- Reading by paths. -/
import Derived.Test.YtlhinijgdffcdaaGreatDoorOps
import Derived.Laws.Cells
import Derived.Laws.Sem
namespace Go.Ab
open Go
set_option linter.unusedVariables false
set_option linter.unusedSimpArgs false
def Sub (cs : List Value) (o : Nat) (ds : List Value) : Prop := ∀ i v, ds[i]? = some v → cs[o + i]? = some v
theorem Sub.lies {w : World} {b o n : Nat} {cs ds : List Value} (h : Sub cs n ds) (hl : Lies w b o cs) : Lies w b (o + n) ds :=
 fun i v hi => by have := hl (n + i) v (h i v hi); rwa [← Nat.add_assoc] at this
theorem Sub.refl (cs : List Value) : Sub cs 0 cs := fun i v h => by rwa [Nat.zero_add]
theorem Sub.trans {cs ds es : List Value} {m n : Nat} (h : Sub cs m ds) (k : Sub ds n es) : Sub cs (m + n) es :=
 fun i v hi => by rw [Nat.add_assoc]; exact h _ _ (k i v hi)
theorem Sub.left (a b : List Value) : Sub (a ++ b) 0 a := fun i v h => by
 rw [Nat.zero_add]
 have hi : i < a.length := by
  by_cases hi : i < a.length
  ·exact hi
  ·rw [List.getElem?_eq_none (by omega)] at h; cases h
 rw [List.getElem?_append_left hi]; exact h
theorem Sub.right (a b : List Value) : Sub (a ++ b) a.length b := fun i v h => by
 rw [List.getElem?_append_right (by omega), Nat.add_sub_cancel_left]; exact h
theorem Sub.flatten {css : List (List Value)} {m : Nat} (hm : ∀ c ∈ css, c.length = m) : ∀ {i : Nat} {c : List Value}, css[i]? = some c → Sub css.flatten (i * m) c := by
 induction css with
 | nil => intro i c h; simp at h
 | cons d r ih =>
  intro i c h
  rw [List.flatten_cons]
  cases i with
  | zero => simp at h; subst h; simpa using Sub.left d r.flatten
  | succ i =>
   have h1 := ih (fun x hx => hm x (List.mem_cons_of_mem _ hx)) (i := i) (by simpa using h)
   have h2 := (Sub.right d r.flatten).trans h1
   rw [hm d List.mem_cons_self] at h2
   rwa [Nat.succ_mul, Nat.add_comm]
theorem sizeL_append : ∀ (a b : List S), sizeL (a ++ b) = sizeL a + sizeL b
 | [], b => by simp [sizeL]
 | x :: a, b => by rw [List.cons_append]; simp only [sizeL, sizeL_append a b]; omega
mutual
theorem lift_size : ∀ (t : Ty) (x : t.den), (lift t x).size = t.size
 | .int _, _ | .bool, _ | .str, _ | .slice _, _ | .unit, _ | .err, _ | .nw _, _ => rfl
 | .rose a, x => by
  simp only [lift, S.size, sizeL_append, liftL_size a x.lab, Ty.size, sizeL]
 | .arr n e, x => rfl
 | .pair a b, x => by
  simp only [lift, S.size, sizeL, Ty.size, lift_size a x.1, liftL_size b x.2]
theorem liftL_size : ∀ (t : Ty) (x : t.den), sizeL (liftL t x) = t.size
 | .int _, _ | .bool, _ | .str, _ | .slice _, _ | .unit, _ | .err, _ | .nw _, _ => rfl
 | .rose a, x => by
  simp only [liftL, S.size, sizeL_append, liftL_size a x.lab, Ty.size, sizeL]
 | .arr n e, x => by simp [liftL, sizeL, S.size, Ty.size]
 | .pair a b, x => by
  simp only [liftL, sizeL, Ty.size, lift_size a x.1, liftL_size b x.2]
end
section
variable {E : Env} {tb : Tbl} {w : World}
theorem RelL.append : ∀ {l m : List S} {c d : List Value}, RelL E tb w l c → RelL E tb w m d → RelL E tb w (l ++ m) (c ++ d)
 | [], m, c, d, h, k => by cases h; exact k
 | f :: l, m, c, d, h, k => by
  obtain ⟨c1, c2, rfl, h1, h2⟩ := h
  exact ⟨c1, c2 ++ d, by rw [List.append_assoc], h1, RelL.append h2 k⟩
theorem relL_sing {s : S} {c : List Value} (h : Rel E tb w s c) : RelL E tb w [s] c := ⟨c, [], by simp, h, rfl⟩
mutual
theorem Rt.lift : ∀ {t : Ty} {cs : List Value} {x : t.den}, Rt w (E.ok tb) t cs x → Rel E tb w (lift t x) cs
 | .int _, cs, x, h => h
 | .nw _, cs, x, h => h
 | .bool, cs, x, h => h
 | .str, cs, x, h => h
 | .slice _, cs, x, h => h
 | .arr _ _, cs, x, h => h
 | .unit, cs, x, h => h
 | .pair a b, cs, x, h => by
  obtain ⟨c1, c2, rfl, h1, h2⟩ := h
  exact ⟨c1, c2, rfl, Rt.lift h1, Rt.liftL h2⟩
 | .rose a, cs, x, h => by
  obtain ⟨c1, c2, rfl, h1, h2⟩ := rt_rose.1 h
  show RelL E tb w _ _
  exact (Rt.liftL h1).append (relL_sing (s := .sl (.rose a) x.kids) h2)
 | .err, cs, x, h => h
theorem Rt.liftL : ∀ {t : Ty} {cs : List Value} {x : t.den}, Rt w (E.ok tb) t cs x → RelL E tb w (liftL t x) cs
 | .int _, cs, x, h => ⟨cs, [], by simp, h, rfl⟩
 | .nw _, cs, x, h => ⟨cs, [], by simp, h, rfl⟩
 | .bool, cs, x, h => ⟨cs, [], by simp, h, rfl⟩
 | .str, cs, x, h => ⟨cs, [], by simp, h, rfl⟩
 | .slice _, cs, x, h => ⟨cs, [], by simp, h, rfl⟩
 | .arr _ _, cs, x, h => ⟨cs, [], by simp, h, rfl⟩
 | .unit, cs, x, h => h
 | .pair a b, cs, x, h => by
  obtain ⟨c1, c2, rfl, h1, h2⟩ := h
  exact ⟨c1, c2, rfl, Rt.lift h1, Rt.liftL h2⟩
 | .rose a, cs, x, h => by
  obtain ⟨c1, c2, rfl, h1, h2⟩ := rt_rose.1 h
  exact (Rt.liftL h1).append (relL_sing (s := .sl (.rose a) x.kids) h2)
 | .err, cs, x, h => ⟨cs, [], by simp, h, rfl⟩
end
theorem keysOfL_append : ∀ (a b : List S), keysOfL (a ++ b) = keysOfL a ++ keysOfL b
 | [], b => rfl
 | x :: a, b => by rw [List.cons_append]; simp only [keysOfL, keysOfL_append a b, List.append_assoc]
mutual
theorem lift_keys : ∀ (t : Ty) (x : t.den), keysOf (lift t x) = []
 | .int _, _ | .bool, _ | .str, _ | .slice _, _ | .arr _ _, _ | .err, _ | .nw _, _ => rfl
 | .unit, _ => rfl
 | .pair a b, x => by simp [lift, keysOf, keysOfL, lift_keys a x.1, liftL_keys b x.2]
 | .rose a, x => by simp [lift, keysOf, keysOfL, keysOfL_append, liftL_keys a x.lab]
theorem liftL_keys : ∀ (t : Ty) (x : t.den), keysOfL (liftL t x) = []
 | .int _, _ | .bool, _ | .str, _ | .slice _, _ | .arr _ _, _ | .err, _ | .nw _, _ => rfl
 | .unit, _ => rfl
 | .pair a b, x => by simp [liftL, keysOfL, lift_keys a x.1, liftL_keys b x.2]
 | .rose a, x => by simp [liftL, keysOf, keysOfL, keysOfL_append, liftL_keys a x.lab]
end
theorem getA_eq {e : Ty} {xs : List e.den} {i : Int} (h : i.toNat < xs.length) : getA e xs i = xs[i.toNat] := by
 simp [getA, List.getD_eq_getElem?_getD, List.getElem?_eq_getElem h]
theorem getT_rel : ∀ {t : Ty} {p : List Step} {x : t.den} {cs : List Value} {s : S}, pathT t p → Rt w (E.ok tb) t cs x → getT t x p = some s →
  ∃ ds, Sub cs (offT t p) ds ∧ Rel E tb w s ds ∧ keysOf s = [] := by
 intro t
 induction t with
 | nw k =>
  intro p x cs s hp h hg
  cases p with
  | nil => simp [getT] at hg; subst hg; exact ⟨cs, Sub.refl cs, h, rfl⟩
  | cons st p => simp [pathT] at hp
 | int k =>
  intro p x cs s hp h hg
  cases p with
  | nil => simp [getT] at hg; subst hg; exact ⟨cs, Sub.refl cs, h, rfl⟩
  | cons st p => simp [pathT] at hp
 | bool =>
  intro p x cs s hp h hg
  cases p with
  | nil => simp [getT] at hg; subst hg; exact ⟨cs, Sub.refl cs, h, rfl⟩
  | cons st p => simp [pathT] at hp
 | str =>
  intro p x cs s hp h hg
  cases p with
  | nil => simp [getT] at hg; subst hg; exact ⟨cs, Sub.refl cs, h, rfl⟩
  | cons st p => simp [pathT] at hp
 | slice e _ =>
  intro p x cs s hp h hg
  cases p with
  | nil => simp [getT] at hg; subst hg; exact ⟨cs, Sub.refl cs, h, rfl⟩
  | cons st p => simp [pathT] at hp
 | unit =>
  intro p x cs s hp h hg
  cases p with
  | nil => simp [getT] at hg; subst hg; exact ⟨cs, Sub.refl cs, h, rfl⟩
  | cons st p => simp [pathT] at hp
 | arr n e ih =>
  intro p x cs s hp h hg
  cases p with
  | nil => simp [getT] at hg; subst hg; exact ⟨cs, Sub.refl cs, h, rfl⟩
  | cons st p =>
   cases st with
   | fld i => simp [pathT] at hp
   | idx i =>
    simp only [pathT] at hp
    simp only [getT] at hg
    obtain ⟨hl, css, rfl, hn, hc⟩ := h
    have hi : i.toNat < x.length := by omega
    obtain ⟨ecs, he, hr⟩ := hc i.toNat hi
    rw [getA_eq hi] at hg
    obtain ⟨ds, h1, h2, h3⟩ := ih hp.2.2 hr hg
    have hm : ∀ c ∈ css, c.length = e.size := by
     intro c hcm
     obtain ⟨j, hj, rfl⟩ := List.getElem_of_mem hcm
     obtain ⟨q, hq, hqr⟩ := hc j (by omega)
     rw [List.getElem?_eq_getElem hj] at hq
     cases hq
     exact hqr.length
    refine ⟨ds, ?_, h2, h3⟩
    simp only [offT]
    exact (Sub.flatten hm he).trans h1
 | pair a b iha ihb =>
  intro p x cs s hp h hg
  cases p with
  | nil => simp [getT] at hg; subst hg; exact ⟨cs, Sub.refl cs, Rt.lift h, lift_keys _ _⟩
  | cons st p =>
   obtain ⟨c1, c2, rfl, h1, h2⟩ := h
   cases st with
   | idx i => simp [pathT] at hp
   | fld i =>
    cases i with
    | zero =>
     simp only [pathT] at hp
     simp only [getT] at hg
     obtain ⟨ds, q1, q2, q3⟩ := iha hp h1 hg
     refine ⟨ds, ?_, q2, q3⟩
     simp only [offT]
     have := (Sub.left c1 c2).trans q1
     rwa [Nat.zero_add] at this
    | succ i =>
     simp only [pathT] at hp
     simp only [getT] at hg
     obtain ⟨ds, q1, q2, q3⟩ := ihb hp h2 hg
     refine ⟨ds, ?_, q2, q3⟩
     simp only [offT]
     rw [← h1.length]
     exact (Sub.right c1 c2).trans q1
 | rose a ih =>
  intro p x cs s hp h hg
  cases p with
  | nil => simp [getT] at hg; subst hg; exact ⟨cs, Sub.refl cs, Rt.lift h, lift_keys _ _⟩
  | cons st p =>
   obtain ⟨c1, c2, rfl, h1, h2⟩ := rt_rose.1 h
   cases st with
   | idx i => simp [pathT] at hp
   | fld i =>
    simp only [pathT] at hp
    simp only [getT] at hg
    by_cases hi : i < a.nfld
    ·rw [if_pos hi] at hp hg
     obtain ⟨ds, q1, q2, q3⟩ := ih hp h1 hg
     refine ⟨ds, ?_, q2, q3⟩
     simp only [offT, if_pos hi]
     have := (Sub.left c1 c2).trans q1
     rwa [Nat.zero_add] at this
    ·rw [if_neg hi] at hp hg
     obtain ⟨rfl, _, rfl⟩ := hp
     simp at hg
     subst hg
     refine ⟨c2, ?_, h2, rfl⟩
     simp only [offT, if_neg hi]
     rw [← h1.length]
     exact Sub.right c1 c2
 | err =>
  intro p x cs s hp h hg
  cases p with
  | nil => simp [getT] at hg; subst hg; exact ⟨cs, Sub.refl cs, h, rfl⟩
  | cons st p => simp [pathT] at hp
theorem RelL.get : ∀ {l : List S} {cs : List Value}, RelL E tb w l cs → ∀ {i : Nat} {f : S}, l[i]? = some f → ∃ ds, Sub cs (offL l i) ds ∧ Rel E tb w f ds
 | [], cs, _, i, f, hi => by simp at hi
 | g :: r, cs, h, i, f, hi => by
  obtain ⟨c1, c2, rfl, h1, h2⟩ := h
  cases i with
  | zero => simp at hi; subst hi; exact ⟨c1, Sub.left c1 c2, h1⟩
  | succ i =>
   obtain ⟨ds, q1, q2⟩ := RelL.get h2 (i := i) (f := f) (by simpa using hi)
   refine ⟨ds, ?_, q2⟩
   simp only [offL]
   rw [← h1.length]
   exact (Sub.right c1 c2).trans q1
theorem keysL_get : ∀ {l : List S} {i : Nat} {f : S}, l[i]? = some f → ∀ k ∈ keysOf f, k ∈ keysOfL l
 | [], i, f, hi => by simp at hi
 | g :: r, i, f, hi => by
  intro k hk
  cases i with
  | zero => simp at hi; subst hi; simp [keysOfL, hk]
  | succ i => simp [keysOfL, keysL_get (i := i) (f := f) (by simpa using hi) k hk]
theorem getS_rel : ∀ {p : List Step} {s s' : S} {cs : List Value}, pathS p s → Rel E tb w s cs → getS p s = some s' →
  ∃ ds, Sub cs (offS p s) ds ∧ Rel E tb w s' ds ∧ ∀ k ∈ keysOf s', k ∈ keysOf s
 | [], s, s', cs, _, h, hg => by simp [getS] at hg; subst hg; exact ⟨cs, Sub.refl cs, h, fun k hk => hk⟩
 | .fld i :: p, s, s', cs, hp, h, hg => by
  cases s <;> try (simp [pathS] at hp; done)
  rename_i fs
  simp only [pathS] at hp
  simp only [getS] at hg
  cases hi : fs[i]? with
  | none => simp [hi] at hp
  | some f =>
   simp only [hi] at hp
   simp only [hi, Option.bind_some] at hg
   simp only [Rel] at h
   obtain ⟨ds, q1, q2⟩ := RelL.get h hi
   obtain ⟨es, r1, r2, r3⟩ := getS_rel hp q2 hg
   refine ⟨es, ?_, r2, fun k hk => keysL_get hi k (r3 k hk)⟩
   simp only [offS, hi]
   exact q1.trans r1
 | .idx i :: p, s, s', cs, hp, h, hg => by
  cases s <;> try (simp [pathS] at hp; done)
  rename_i n e xs
  simp only [getS] at hg
  obtain ⟨ds, q1, q2, q3⟩ := getT_rel (t := .arr n e) (p := .idx i :: p) (x := xs) (by simpa [pathT, pathS] using hp) h (by simpa [getT] using hg)
  exact ⟨ds, by simpa [offT, offS] using q1, q2, by rw [q3]; intro k hk; cases hk⟩
theorem getE_rel {k : Nat} {ent : Ent} {p : List Step} {s : S} (hp : pathE ent p) (h : RelE E tb w k ent) (hg : getE ent p = some s) :
  ∃ b o ds, E.κ k = some (b, o) ∧ Lies w b (o + offE ent p) ds ∧ Rel E tb w s ds ∧ ∀ j ∈ keysOf s, j ∈ ent.keys := by
 cases ent with
 | box c fz =>
  obtain ⟨b, cs, h1, h2, h3, h4, _⟩ := h
  obtain ⟨ds, q1, q2, q3⟩ := getS_rel hp h4 hg
  exact ⟨b, 0, ds, h1, q1.lies h3, q2, q3⟩
 | buf e xs fz =>
  cases p with
  | nil => simp [pathE] at hp
  | cons st p =>
   cases st with
   | fld i => simp [pathE] at hp
   | idx i =>
    simp only [pathE] at hp
    simp only [getE] at hg
    simp only [RelE] at h
    cases hκ : E.κ k with
    | none => rw [hκ] at h; have := h.2; subst this; simp at hp
    | some q =>
     obtain ⟨b, o⟩ := q
     rw [hκ] at h
     obtain ⟨_, _, _, _, hel⟩ := h
     obtain ⟨ecs, l1, l2⟩ := hel i.toNat hp.2.1
     rw [getA_eq hp.2.1] at hg
     obtain ⟨ds, q1, q2, q3⟩ := getT_rel hp.2.2 l2 hg
     refine ⟨b, o, ds, rfl, ?_, q2, by rw [q3]; intro k hk; cases hk⟩
     have := q1.lies l1
     simp only [offE]
     rwa [Nat.add_assoc] at this
 | map kt vt m fz => simp [pathE] at hp
theorem addr_add (b o n : Nat) : (⟨b, o, none⟩ : Addr).add n = ⟨b, o + n, none⟩ := by
 unfold Addr.add; split
 ·rename_i h; subst h; rfl
 ·rfl
theorem run_loadVar {P : Program} {t : TypeId} {b o : Nat} {s : S} {ds : List Value} (hl : Lies w b o ds) (hr : Rel E tb w s ds)
  (ha : (s.isAgg == isAggT P t) = true) (hs : (cellsT P t == some s.size) = true) :
  ∃ v, (loadVar t ⟨b, o, none⟩).run P w = .ok v w ∧ RelV E tb w s v := by
 have ha' : isAggT P t = s.isAgg := (beq_iff_eq.1 ha).symm
 have hs' := beq_iff_eq.1 hs
 have hlen := Rel.length hr
 unfold cellsT at hs'
 cases hu : P.underlying t with
 | none => simp [hu] at hs'
 | some d =>
  simp only [hu] at hs'
  cases hi : P.info? t with
  | none => simp [hi] at hs'
  | some inf =>
   simp only [hi, Option.map_some, Option.some.injEq] at hs'
   have hisagg : (isAgg t).run P w = .ok s.isAgg w := by
    rw [← ha']
    unfold isAgg underlying isAggT
    simp only [hu, bind, Sem.bind, program, Sem.run, pure]
    cases d <;> rfl
   have hsize : (sizeOf t).run P w = .ok inf.size w := by
    unfold sizeOf typeInfo
    simp only [hi, bind, Sem.bind, program, Sem.run, pure]
   cases hag : s.isAgg with
   | true =>
    refine ⟨.agg ds.toArray, ?_, by rw [RelV, if_pos hag]; exact ⟨_, rfl, by simpa using hr⟩⟩
    unfold loadVar
    simp only [Sem.run_bind, hisagg, hag, Result.andThen, if_true, hsize]
    rw [hs', ← hlen, run_loadCells_list (P := P) w ⟨b, o, none⟩ ds (fun j v hj => by rw [addr_add]; exact hl j v hj)]
    rfl
   | false =>
    have h1 : s.size = 1 := by cases s <;> first | rfl | simp [S.isAgg] at hag
    obtain ⟨v, rfl⟩ := List.length_eq_one_iff.1 (hlen.trans h1)
    refine ⟨v, ?_, by rw [relV_scalar hag]; exact hr⟩
    unfold loadVar
    simp only [Sem.run_bind, hisagg, hag, Result.andThen]
    have h0 := hl 0 v rfl
    rw [Nat.add_zero] at h0
    simp [load, Sem.run, h0]
end
end Go.Ab
