/- Steps that turn memory: one form for all. New rows. -/
import Derived.Test.YtlhinijgdffcdaaGreatDoorOp6
import Derived.Laws.MakeOwn
namespace Go.Ab
open Go
set_option linter.unusedVariables false
set_option linter.unusedSimpArgs false
theorem freezes_mem {tb : Tbl} : ∀ {ks : List Nat} {k : Nat} {x : Option Ent}, (k, x) ∈ freezes tb ks → k ∈ ks ∧ ∃ e, tb k = some e ∧ x = some e.freeze
 | [], k, x, h => by simp [freezes] at h
 | j :: r, k, x, h => by
  simp only [freezes] at h
  split at h
  ·rename_i e he
   rcases List.mem_cons.1 h with h | h
   ·cases h; exact ⟨List.mem_cons_self, e, he, rfl⟩
   ·obtain ⟨q1, q2⟩ := freezes_mem h; exact ⟨List.mem_cons_of_mem _ q1, q2⟩
  ·obtain ⟨q1, q2⟩ := freezes_mem h; exact ⟨List.mem_cons_of_mem _ q1, q2⟩
theorem freezes_get (tb : Tbl) (ks : List Nat) (k : Nat) : tb.sets (freezes tb ks) k = tb k ∨ ∃ e, tb k = some e ∧ k ∈ ks ∧ tb.sets (freezes tb ks) k = some e.freeze := by
 rcases sets_cases (freezes tb ks) tb k with h | ⟨_, h⟩
 ·obtain ⟨h1, e, h2, h3⟩ := freezes_mem h
  exact .inr ⟨e, h2, h1, h3⟩
 ·exact .inl h
theorem freezes_hit {tb : Tbl} {e : Ent} {k : Nat} : ∀ {ks : List Nat}, tb k = some e → k ∈ ks → tb.sets (freezes tb ks) k = some e.freeze := by
 intro ks he hk
 have : (k, some e.freeze) ∈ freezes tb ks := by
  induction ks with
  | nil => simp at hk
  | cons j r ih =>
   simp only [freezes]
   rcases List.mem_cons.1 hk with rfl | hk
   ·rw [he]; exact List.mem_cons_self
   ·split
    ·exact List.mem_cons_of_mem _ (ih hk)
    ·exact ih hk
 have h2 := sets_mem _ tb ⟨_, this⟩
 obtain ⟨_, e', h3, h4⟩ := freezes_mem h2
 rw [he] at h3; cases h3; exact h4
theorem RelE.freeze {E : Env} {tb : Tbl} {w : World} {k : Nat} {e : Ent} (h : RelE E tb w k e) : RelE E tb w k e.freeze := by
 cases e with
 | box s fz =>
  obtain ⟨b, cs, h1, h2, h3, h4, h5, h6, h7⟩ := h
  exact ⟨b, cs, h1, h2, h3, h4, h5, (by simp), h7⟩
 | buf e xs fz =>
  obtain ⟨h0, h⟩ := h
  refine ⟨h0, ?_⟩
  cases hq : E.κ k with
  | none => rw [hq] at h; exact h
  | some p => rw [hq] at h; exact ⟨h.1, h.2.1, by simp, h.2.2.2⟩
 | map kt vt m fz => exact h
theorem freeze_keys (e : Ent) : e.freeze.keys = e.keys := by cases e <;> rfl
theorem freeze_fz (e : Ent) : e.freeze.fz = true := by cases e <;> rfl
section
variable {E : Env} {w0 : World} {own0 : Nat → Bool → Prop} {st : St} {D : List Nat} {a : Act} {w : World} {C : Ctx} {o : Oper} {i : Nat} {r : OpR}
theorem turn_gen {tb' : Tbl} {f : Nat → Option (Nat × Nat)} {w' : World} {T : Nat → Prop}
  (hR : RelSt E w0 own0 st D a.tmps w) (hi : i ∉ D) (hd : i < 4096)
  (hs : w.heap.size ≤ w'.heap.size) (ho : w'.os = w.os) (htp : w'.tape = w.tape) (hou : w'.output = w.output)
  (htgt : ∀ b, T b → ∃ k p e, E.κ k = some p ∧ st.tb k = some e ∧ e.fz = false ∧ p.1 = b)
  (hb : ∀ b, b < w.heap.size → ¬ T b → w'.heap[b]? = w.heap[b]?)
  (hc : ∀ b o, T b → ((w.cell? ⟨b, o, none⟩).isSome → (w'.cell? ⟨b, o, none⟩).isSome) ∧ ((w'.cell? ⟨b, o, none⟩).isSome → (w.cell? ⟨b, o, none⟩).isSome))
  (hold : ∀ k e', tb' k = some e' → k / 64 ≠ st.ep * 4096 + i → ∃ e, st.tb k = some e ∧
   (((∀ p, E.κ k = some p → ¬ T p.1) ∧ (e' = e ∨ e' = e.freeze)) ∨
    (SameForm e e' ∧ (e.fz = true → e'.fz = true) ∧ (Moves (fun k => k / 64 = st.ep * 4096 + i) E st.tb w (E.upd (st.ep * 4096 + i) f) tb' w' →
     RelE (E.upd (st.ep * 4096 + i) f) tb' w' k e' ∧ ∀ j ∈ e'.keys, Known st.ep (i :: D) j))))
  (hnew : ∀ k e', tb' k = some e' → k / 64 = st.ep * 4096 + i →
   (Moves (fun k => k / 64 = st.ep * 4096 + i) E st.tb w (E.upd (st.ep * 4096 + i) f) tb' w' → RelE (E.upd (st.ep * 4096 + i) f) tb' w' k e' ∧ ∀ j ∈ e'.keys, Known st.ep (i :: D) j) ∧
   ∀ p, f (k % 64) = some p → w.heap.size ≤ p.1 ∨ ∃ j q e, E.κ j = some q ∧ q.1 = p.1 ∧ st.tb j = some e ∧ (e'.fz = false → e.fz = false) ∧ tb' j = none)
  (hap : ∀ j k p q, f j = some p → f k = some q → p.1 = q.1 → j = k) :
  Turn E w0 own0 st w (st.ep * 4096 + i) (Known st.ep (i :: D)) T (E.upd (st.ep * 4096 + i) f) tb' w' := by
 refine ⟨hs, ho, htp, hou, htgt, hb, fun b o h => (hc b o h).1, fun b o h => (hc b o h).2, fun k hk => upd_old hk, rfl, rfl, ?_, ?_, ?_⟩
 ·intro k e' he hk
  obtain ⟨e, h1, h2⟩ := hold k e' he hk
  refine ⟨e, h1, ?_⟩
  rcases h2 with ⟨h2, rfl | rfl⟩ | ⟨h2, h3, h4⟩
  ·exact ⟨SameForm.refl, id, .inl ⟨rfl, h2⟩⟩
  ·refine ⟨SameForm.freeze, fun _ => freeze_fz e, .inr fun M => ⟨?_, ?_⟩⟩
   ·have hr := hR.ent k e h1
    exact (M.relE (upd_old hk) rfl (fun p hp => hb _ (hr.lt hp) (h2 p hp)) hs (fun j hj => (hR.keyE k e h1 j hj).notFresh hi hd) hr).freeze
   ·rw [freeze_keys]; exact fun j hj => (hR.keyE k e h1 j hj).cons
  ·exact ⟨h2, h3, .inr h4⟩
 ·intro k e' he hk
  obtain ⟨h1, h2⟩ := hnew k e' he hk
  exact ⟨h1, fun p hp => h2 p (by rwa [upd_new hk] at hp)⟩
 ·intro k j p q e f' hk hj hp hq _ _ hpq
  rw [upd_new hk] at hp
  rw [upd_new hj] at hq
  have := hap _ _ p q hp hq hpq
  omega
theorem fresh_none (hR : RelSt E w0 own0 st D a.tmps w) (hi : i ∉ D) (hd : i < 4096) {k : Nat} (hk : k / 64 = st.ep * 4096 + i) : st.tb k = none := by
 cases h : st.tb k with
 | none => rfl
 | some e => exact absurd hk ((hR.keyT k e h).notFresh hi hd)
theorem frozen_ok {E' : Env} {tb' : Tbl} {t : Nat} (hR : RelSt E w0 own0 st D a.tmps w) (hav : E'.av = E.av) (hκ : ∀ k, k / 64 ≠ t → E'.κ k = E.κ k)
  (hold : ∀ j e', tb' j = some e' → j / 64 ≠ t → ∃ e, st.tb j = some e)
  (hplace : ∀ j e' p, tb' j = some e' → j / 64 = t → E'.κ j = some p → w.heap.size ≤ p.1 ∨ ∃ j' q e, E.κ j' = some q ∧ q.1 = p.1 ∧ st.tb j' = some e ∧ tb' j' = none)
  {k : Nat} {e e' : Ent} {p : Nat × Nat} (hk : k / 64 ≠ t) (he : st.tb k = some e) (hp : E.κ k = some p) (he' : tb' k = some e') (hf : e'.fz = true) : ∀ ty, E'.ok tb' ty p.1 := by
 intro ty
 refine ⟨by rw [hav]; exact (hR.ent k e he).notav hp ty, fun j q f hq hf' hff hqp => ?_⟩
 by_cases hj : j / 64 = t
 ·rcases hplace j f q hf' hj hq with h | ⟨j', q', e1, h1, h2, h3, h4⟩
  ·have := (hR.ent k e he).lt hp; omega
  ·have := hR.inj j' k q' p e1 e h1 hp h3 he (by omega)
   subst this
   rw [h4] at he'; cases he'
 ·obtain ⟨e1, h1⟩ := hold j f hf' hj
  rw [hκ j hj] at hq
  have := hR.inj j k q p e1 e hq hp h1 he hqp
  subst this
  rw [hf'] at he'; cases he'; rw [hf] at hff; cases hff
theorem row_goodS {e : Ty} {el : TypeId} {xs : List e.den} {cs : Array Value} {ks : List Nat} {cap : Nat} {w' : World} {fz : Nat × Nat} {s : S}
  (hR : RelSt E w0 own0 st D a.tmps w) (hi : i ∉ D) (hd : i < 4096)
  (hw : w'.heap = w.heap.push (.cells cs el fz)) (hos : w'.os = w.os) (htp : w'.tape = w.tape) (hou : w'.output = w.output)
  (hfz : fz.1 = fz.2 ∨ cs.size ≤ fz.1)
  (hrun : (execOp a.eval o).run C.P w = .ok (.value (.slice (some ⟨w.heap.size, 0, none⟩) xs.length cap)) w')
  (hl : xs.length ≤ MAXL) (hcap : xs.length ≤ cap) (hcs : cap * e.size ≤ cs.size) (hcm : cap ≤ CAPM)
  (hrt : ∀ (ok : Ty → Nat → Prop) (w' : World), (∀ t b, E.ok st.tb t b → b < w.heap.size → ok t b ∧ b < w'.heap.size) → (∀ t b, E.ok st.tb t b → ∀ o v, w.cell? ⟨b, o, none⟩ = some v → w'.cell? ⟨b, o, none⟩ = some v) →
   (∀ k ∈ ks, ∀ e p, st.tb k = some e → E.κ k = some p → (∀ t, ok t p.1) ∧ p.1 < w'.heap.size ∧ ∀ o v, w.cell? ⟨p.1, o, none⟩ = some v → w'.cell? ⟨p.1, o, none⟩ = some v) →
   ∃ ds rest, cs.toList = ds ++ rest ∧ Rt w' ok (.arr xs.length e) ds xs)
  (sv : S) (hsa : sv.isAgg = false) (hsk : ∀ k ∈ keysOf sv, k = mk st.ep i 0)
  (hsr : ∀ (E' : Env) (tb' : Tbl) (w' : World), tb' (mk st.ep i 0) = some (.buf e xs false) → E'.κ (mk st.ep i 0) = some (w.heap.size, 0) → (∀ j, j < cap * e.size → (w'.cell? ⟨w.heap.size, 0 + j, none⟩).isSome) → Room w' w.heap.size 0 cs.size →
   Rel E' tb' w' sv [.slice (some ⟨w.heap.size, 0, none⟩) xs.length cap]) :
  OpGood C.P E w0 own0 st D i o sv (freezes st.tb ks ++ [(mk st.ep i 0, some (.buf e xs false))]) a w := by
 have hm0 : mk st.ep i 0 / 64 = st.ep * 4096 + i := mk_div _ _ _ (by omega)
 have hsz : w'.heap.size = w.heap.size + 1 := by rw [hw]; simp
 have hblk : ∀ b, b < w.heap.size → w'.heap[b]? = w.heap[b]? := by
  intro b hb; rw [hw, Array.getElem?_push]; split <;> first | omega | rfl
 have hnew : w'.heap[w.heap.size]? = some (.cells cs el fz) := by rw [hw, Array.getElem?_push]; simp
 have hlast : st.tb.sets (freezes st.tb ks ++ [(mk st.ep i 0, some (.buf e xs false))]) (mk st.ep i 0) = some (.buf e xs false) := by
  rw [sets_append]; exact set_eq _ _ _
 have hoth : ∀ k, k ≠ mk st.ep i 0 → st.tb.sets (freezes st.tb ks ++ [(mk st.ep i 0, some (.buf e xs false))]) k = st.tb.sets (freezes st.tb ks) k := by
  intro k hk; rw [sets_append]; exact set_ne _ hk _
 have hlies : Lies w' w.heap.size 0 cs.toList := by
  intro j v h
  unfold World.cell?
  simp only [hnew, Nat.zero_add]
  simpa using h
 refine turn_good (C := C) (E' := E.upd (st.ep * 4096 + i) fun j => if j = 0 then some (w.heap.size, 0) else none) (w' := w') (T := fun _ => False) hR hi hd
  (turn_gen hR hi hd (by omega) hos htp hou (fun _ h => h.elim) (fun b hb _ => hblk b hb) (fun _ _ h => h.elim) ?_ ?_ ?_) (.inl hrun) ?_
 ·intro k e' he hk
  have hkm : k ≠ mk st.ep i 0 := fun h => hk (by rw [h]; exact hm0)
  rw [hoth k hkm] at he
  rcases freezes_get st.tb ks k with h | ⟨e1, h1, _, h2⟩
  ·rw [h] at he; exact ⟨e', he, .inl ⟨fun _ _ h => h, .inl rfl⟩⟩
  ·rw [h2] at he; cases he; exact ⟨e1, h1, .inl ⟨fun _ _ h => h, .inr rfl⟩⟩
 ·intro k e' he hk
  by_cases hkm : k = mk st.ep i 0
  ·subst hkm
   rw [hlast] at he; cases he
   refine ⟨fun M => ⟨⟨hl, ?_⟩, by simp [Ent.keys]⟩, fun p hp => .inl ?_⟩
   ·rw [upd_new hm0, mk_mod _ _ _ (by omega), if_pos rfl]
    refine ⟨by omega, fun _ hav => by have := hR.avlt _ _ hav; omega, fun _ => ⟨cs, el, fz.1, fz.2, hnew, hfz⟩, ?_⟩
    obtain ⟨ds, rest, hd1, hd2⟩ := hrt _ w' M.ok M.cell (fun k hk' e1 p he1 hp => by
     have hlt := (hR.ent k e1 he1).lt hp
     have hkt := (hR.keyT k e1 he1).notFresh hi hd
     have hkm : k ≠ mk st.ep i 0 := fun h => hkt (by rw [h]; exact hm0)
     refine ⟨frozen_ok (E' := E.upd (st.ep * 4096 + i) fun j => if j = 0 then some (w.heap.size, 0) else none) (tb' := st.tb.sets (freezes st.tb ks ++ [(mk st.ep i 0, some (.buf e xs false))])) hR (e' := e1.freeze) (t := st.ep * 4096 + i) rfl (fun k hk => upd_old hk) ?_ ?_ hkt he1 hp ?_ (freeze_fz e1), by omega, fun o v hv => by rw [cell_same (hblk _ hlt)]; exact hv⟩
     ·intro j e' he' hj
      have hjm : j ≠ mk st.ep i 0 := fun h => hj (by rw [h]; exact hm0)
      rw [hoth j hjm] at he'
      rcases freezes_get st.tb ks j with h | ⟨e1, h1, _, h2⟩
      ·rw [h] at he'; exact ⟨e', he'⟩
      ·exact ⟨e1, h1⟩
     ·intro j e' q he' hj hq
      rw [upd_new hj] at hq
      split at hq <;> cases hq
      exact .inl (Nat.le_refl _)
     ·rw [hoth k hkm]; exact freezes_hit he1 hk')
    exact hd2.row (b := w.heap.size) (o := 0) (fun j v hj => hlies j v (by rw [hd1, List.getElem?_append_left]; exact hj; by_cases hh : j < ds.length; exact hh; rw [List.getElem?_eq_none (by omega)] at hj; cases hj))
   ·rw [mk_mod _ _ _ (by omega), if_pos rfl] at hp; cases hp; exact Nat.le_refl _
  ·rw [hoth k hkm] at he
   rcases freezes_get st.tb ks k with h | ⟨e1, h1, _, h2⟩
   ·rw [h, fresh_none hR hi hd hk] at he; cases he
   ·rw [fresh_none hR hi hd hk] at h1; cases h1
 ·intro j k p q h1 h2 _; split at h1 <;> split at h2 <;> first | omega | (simp at h1 h2)
 ·intro M
  refine ⟨?_, fun k hk' => by rw [hsk k hk']; exact mk_known (by omega)⟩
  rw [relV_scalar hsa]
  refine hsr _ _ _ hlast (by rw [upd_new hm0, mk_mod _ _ _ (by omega), if_pos rfl]) (fun j hj => ?_) ⟨by omega, fun j hj => ⟨Nat.zero_le _, ?_⟩⟩
  ·have hj2 : 0 + j < cs.size := by omega
   unfold World.cell?
   simp only [hnew]
   simpa using hj2
  ·unfold World.cell? at hj
   simp only [hnew] at hj
   simpa using hj
theorem row_good {e : Ty} {el : TypeId} {xs : List e.den} {cs : Array Value} {ks : List Nat} {cap : Nat} {w' : World} {fz : Nat × Nat} {s : S}
  (hR : RelSt E w0 own0 st D a.tmps w) (hi : i ∉ D) (hd : i < 4096)
  (hw : w'.heap = w.heap.push (.cells cs el fz)) (hos : w'.os = w.os) (htp : w'.tape = w.tape) (hou : w'.output = w.output)
  (hfz : fz.1 = fz.2 ∨ cs.size ≤ fz.1)
  (hrun : (execOp a.eval o).run C.P w = .ok (.value (.slice (some ⟨w.heap.size, 0, none⟩) xs.length cap)) w')
  (hl : xs.length ≤ MAXL) (hcap : xs.length ≤ cap) (hcs : cap * e.size ≤ cs.size) (hcm : cap ≤ CAPM)
  (hrt : ∀ (ok : Ty → Nat → Prop) (w' : World), (∀ t b, E.ok st.tb t b → b < w.heap.size → ok t b ∧ b < w'.heap.size) → (∀ t b, E.ok st.tb t b → ∀ o v, w.cell? ⟨b, o, none⟩ = some v → w'.cell? ⟨b, o, none⟩ = some v) →
   (∀ k ∈ ks, ∀ e p, st.tb k = some e → E.κ k = some p → (∀ t, ok t p.1) ∧ p.1 < w'.heap.size ∧ ∀ o v, w.cell? ⟨p.1, o, none⟩ = some v → w'.cell? ⟨p.1, o, none⟩ = some v) →
   ∃ ds rest, cs.toList = ds ++ rest ∧ Rt w' ok (.arr xs.length e) ds xs) :
  OpGood C.P E w0 own0 st D i o (.own e (mk st.ep i 0)) (freezes st.tb ks ++ [(mk st.ep i 0, some (.buf e xs false))]) a w :=
 row_goodS (s := s) hR hi hd hw hos htp hou hfz hrun hl hcap hcs hcm hrt (.own e (mk st.ep i 0)) rfl (fun k hk => by simpa [keysOf] using hk) fun E' tb' w' h1 h2 h3 h4 => by
  simp only [Rel, h1, h2]
  exact ⟨_, cap, rfl, hcap, rfl, h3, hcm⟩
theorem elemC_spec {P : Program} {t : TypeId} {e : Ty} (h : elemC P t = some e) :
  ∃ inf z, P.info? t = some inf ∧ inf.zero = some z ∧ isZ e z.cells.toList = true ∧ inf.size = e.size ∧ 0 < e.size ∧ 0 < inf.bytes ∧ inf.bytes ≤ 4096 := by
 unfold elemC at h
 split at h <;> try contradiction
 rename_i e' inf h1 h2
 split at h <;> try contradiction
 rename_i z hz
 split at h <;> try contradiction
 rename_i hc
 simp only [Bool.and_eq_true, decide_eq_true_eq] at hc
 cases h
 exact ⟨inf, z, h2, hz, hc.1.1.1.1, hc.1.1.1.2, hc.1.1.2, hc.1.2, hc.2⟩
theorem sliceC_spec {P : Program} {t : TypeId} {e : Ty} (h : sliceC P t = some e) : ∃ et, P.underlying t = some (.slice et) ∧ elemC P et = some e := by
 unfold sliceC at h
 split at h <;> try contradiction
 rename_i et hu
 exact ⟨et, hu, h⟩
theorem isZ_len {e : Ty} {cs : List Value} (h : isZ e cs = true) : cs.length = e.size := (isZ_rt (w := default) (ok := fun _ _ => True) h).length
theorem madeCells_rt {e : Ty} {z : Array Value} (hz : isZ e z.toList = true) (hp : 0 < e.size) {w : World} {ok : Ty → Nat → Prop} : ∀ n m, n ≤ m →
  ∃ rest, (madeCells z (m * e.size)).toList = ((List.replicate n z.toList).flatten) ++ rest ∧ Rt w ok (.arr n e) ((List.replicate n z.toList).flatten) (List.replicate n e.zero) := by
 have hzs : z.size = e.size := by have := isZ_len hz; simpa using this
 have hrep : ∀ m, (madeCells z (m * e.size)).toList = (List.replicate m z.toList).flatten := by
  intro m
  apply List.ext_getElem?
  intro j
  by_cases hj : j < m * e.size
  ·have hq : j / e.size < m := by rw [Nat.div_lt_iff_lt_mul hp]; exact hj
   have hr : j % e.size < e.size := Nat.mod_lt _ hp
   have hsub := Sub.flatten (css := List.replicate m z.toList) (m := e.size) (fun c hc => by rw [List.eq_of_mem_replicate hc]; simpa using hzs) (i := j / e.size) (c := z.toList) (by simp [List.getElem?_replicate, hq])
   have := hsub (j % e.size) (z.toList[j % e.size]'(by simpa [hzs] using hr)) (List.getElem?_eq_getElem _)
   rw [Nat.mul_comm, Nat.div_add_mod] at this
   rw [this]
   simp [madeCells, hj, hzs, getElem!_pos, hr]
  ·rw [List.getElem?_eq_none (by simp [madeCells]; omega), List.getElem?_eq_none]
   rw [List.length_flatten]; simp [hzs]; omega
 intro n m hnm
 refine ⟨(List.replicate (m - n) z.toList).flatten, ?_, ?_⟩
 ·rw [hrep, ← List.flatten_append, List.replicate_append_replicate]; congr 2; omega
 ·clear hnm
  induction n with
  | zero => exact rt_arr_nil
  | succ n ih =>
   rw [List.replicate_succ, List.replicate_succ, List.flatten_cons]
   exact rt_arr_cons (isZ_rt hz) ih
theorem opS_makeSlice {t : TypeId} {l c : Operand} (hR : RelSt E w0 own0 st D a.tmps w) (hi : i ∉ D) (ho : o.op = .makeSlice t l c)
  (h : opS C o st.ep i (evalS st.sl) st.tb = some r) (hg : ∀ g ∈ r.g, g = true) : OpGood C.P E w0 own0 st D i o r.v r.ef a w := by
 have hd := opS_lt h
 have hl := hR.eval l
 have hc := hR.eval c
 unfold opS at h
 rw [ho] at h
 simp only [hd, decide_true, Bool.not_true, Bool.false_eq_true, if_false] at h
 split at h <;> try contradiction
 rename_i e k n k' m he hl2 hc2
 rw [hl2] at hl
 rw [hc2] at hc
 obtain ⟨hlv, _⟩ := relV_int.1 hl
 obtain ⟨hcv, _⟩ := relV_int.1 hc
 split at h
 ·simp only [Option.some.injEq] at h; subst h
  simp only [List.mem_cons, List.not_mem_nil, or_false, forall_eq_or_imp, decide_eq_true_eq, forall_eq] at hg
  obtain ⟨h0, rfl, h2⟩ := hg
  have h1 : n ≤ n := Int.le_refl _
  obtain ⟨et, hu, hel⟩ := sliceC_spec he
  obtain ⟨inf, z, hinf, hz, hzz, hsz, hpos, hb1, hb2⟩ := elemC_spec hel
  unfold SMALL at h2
  have hbytes : (inf.bytes : Int) * n ≤ 281474976710656 := by
   have : (inf.bytes : Int) * n ≤ 4096 * n := Int.mul_le_mul_of_nonneg_right (by omega) (by omega)
   omega
  have hrun := run_make (P := C.P) w t et inf z hu hinf hz k k' n n h0 h1 hbytes (by omega)
  have hcs : (madeCells z.cells (n.toNat * inf.size)).size = n.toNat * e.size := by simp [madeCells, hsz]
  have := row_goodS (C := C) (o := o) (e := e) (el := et) (xs := List.replicate n.toNat e.zero) (cs := madeCells z.cells (n.toNat * inf.size)) (ks := []) (cap := n.toNat) (fz := (0, 0)) (s := .junk)
   (w' := w.alloc (.cells (madeCells z.cells (n.toNat * inf.size)) et)) hR hi hd rfl rfl rfl rfl (.inl rfl)
   (by unfold execOp; rw [ho]; simp [hlv, hcv, hrun]) (by simp; unfold MAXL; omega) (by simp) (by rw [hcs]; exact Nat.le_refl _) (by unfold CAPM; omega)
   (fun ok w' _ _ _ => by
    obtain ⟨rest, q1, q2⟩ := madeCells_rt (w := w') (ok := ok) hzz hpos n.toNat n.toNat (by omega)
    rw [hsz, List.length_replicate]
    exact ⟨_, rest, q1, q2⟩)
   (.twn e (mk st.ep i 0) n) rfl (fun k hk => by simpa [keysOf] using hk) (fun E' tb' w' h1 h2 h3 h4 => by
    simp only [Rel, h1]
    refine ⟨_, _, h2, h0, ⟨by simp, ?_⟩, by simp⟩
    rw [List.length_replicate, ← hcs]; exact h4)
  simpa [freezes] using this
 ·simp only [Option.some.injEq] at h; subst h
  simp only [List.mem_cons, List.not_mem_nil, or_false, forall_eq_or_imp, decide_eq_true_eq, forall_eq] at hg
  obtain ⟨h0, h1, h2⟩ := hg
  obtain ⟨et, hu, hel⟩ := sliceC_spec he
  obtain ⟨inf, z, hinf, hz, hzz, hsz, hpos, hb1, hb2⟩ := elemC_spec hel
  unfold SMALL at h2
  have hbytes : (inf.bytes : Int) * m ≤ 281474976710656 := by
   have : (inf.bytes : Int) * m ≤ 4096 * m := Int.mul_le_mul_of_nonneg_right (by omega) (by omega)
   omega
  have hrun := run_make (P := C.P) w t et inf z hu hinf hz k k' n m h0 h1 hbytes (by omega)
  have hcs : (madeCells z.cells (m.toNat * inf.size)).size = m.toNat * e.size := by simp [madeCells, hsz]
  have := row_good (C := C) (o := o) (e := e) (el := et) (xs := List.replicate n.toNat e.zero) (cs := madeCells z.cells (m.toNat * inf.size)) (ks := []) (cap := m.toNat) (fz := (0, 0)) (s := .junk)
   (w' := w.alloc (.cells (madeCells z.cells (m.toNat * inf.size)) et)) hR hi hd rfl rfl rfl rfl (.inl rfl)
   (by unfold execOp; rw [ho]; simp [hlv, hcv, hrun]) (by simp; unfold MAXL; omega) (by simp; omega) (by rw [hcs]; exact Nat.le_refl _) (by unfold CAPM; omega)
   (fun ok w' _ _ _ => by
    obtain ⟨rest, q1, q2⟩ := madeCells_rt (w := w') (ok := ok) hzz hpos n.toNat m.toNat (by omega)
    rw [hsz, List.length_replicate]
    exact ⟨_, rest, q1, q2⟩)
  simpa [freezes] using this
end
end Go.Ab
