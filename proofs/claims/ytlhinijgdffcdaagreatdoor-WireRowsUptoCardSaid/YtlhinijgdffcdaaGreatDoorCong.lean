/- What an operation comes to hangs on what it looks at alone. -/
import Derived.Test.YtlhinijgdffcdaaGreatDoorCall2
namespace Go.Ab
open Go
set_option linter.unusedVariables false
set_option linter.unusedSimpArgs false
mutual
theorem own_keys : ∀ {s : S} {k : Nat}, k ∈ ownKeys s → k ∈ keysOf s
 | .st fs, k, h => by simp only [ownKeys] at h; simp only [keysOf]; exact ownL_keys h
 | .tup fs, k, h => by simp only [ownKeys] at h; simp only [keysOf]; exact ownL_keys h
 | .iface t v, k, h => by simp only [ownKeys] at h; simp only [keysOf]; exact own_keys h
 | .own e j, k, h => h
 | .twn e j n, k, h => h
 | .int .., k, h | .bool _, k, h | .str _, k, h | .sl .., k, h | .nilsl, k, h | .arr .., k, h | .nilp, k, h | .iref .., k, h | .gptr .., k, h | .nilfn, k, h | .nili, k, h | .nilmp, k, h | .err _, k, h | .junk, k, h | .ptr .., k, h | .fn .., k, h | .mp _, k, h => by simp [ownKeys] at h
theorem ownL_keys : ∀ {l : List S} {k : Nat}, k ∈ ownKeysL l → k ∈ keysOfL l
 | [], k, h => by simp [ownKeysL] at h
 | f :: r, k, h => by
  simp only [ownKeysL, keysOfL, List.mem_append] at h ⊢
  rcases h with h | h
  ·exact .inl (own_keys h)
  ·exact .inr (ownL_keys h)
end
section
variable {tb tb' : Tbl}
mutual
theorem lower_congr : ∀ {s : S} {t : Ty}, (∀ k ∈ ownKeys s, tb' k = tb k) → lower tb' s t = lower tb s t
 | .own u k, t, h => by
  have := h k (by simp [ownKeys])
  cases t <;> simp [lower, this]
 | .twn u k n, t, h => by
  have := h k (by simp [ownKeys])
  cases t <;> simp [lower, this]
 | .st fs, t, h => by
  cases t with
  | rose a => simp only [lower]; rw [lowerR_congr h]
  | _ => simp only [lower]; exact lowerL_congr h
 | .int .., t, h | .bool _, t, h | .str _, t, h | .sl .., t, h | .nilsl, t, h | .arr .., t, h | .junk, t, h | .ptr .., t, h | .nilp, t, h | .iref .., t, h | .gptr .., t, h
 | .fn .., t, h | .nilfn, t, h | .iface .., t, h | .nili, t, h | .mp _, t, h | .nilmp, t, h | .err _, t, h | .tup _, t, h => by cases t <;> simp [lower]
theorem lowerR_congr : ∀ {l : List S} {t r : Ty}, (∀ k ∈ ownKeysL l, tb' k = tb k) → lowerR tb' l t r = lowerR tb l t r
 | [], t, r, h => by simp [lowerR]
 | [f], .unit, r, h => by simp only [lowerR]; rw [lower_congr (fun k hk => h k (by simp [ownKeysL, hk]))]
 | f :: q, .pair a b, r, h => by
  simp only [lowerR]
  rw [lower_congr (fun k hk => h k (by simp [ownKeysL, hk])), lowerR_congr (fun k hk => h k (by simp [ownKeysL, hk]))]
 | f :: g :: q, .unit, r, h => by simp [lowerR]
 | f :: q, .int _, r, h | f :: q, .nw _, r, h | f :: q, .bool, r, h | f :: q, .str, r, h | f :: q, .slice _, r, h | f :: q, .arr _ _, r, h | f :: q, .rose _, r, h | f :: q, .err, r, h => by simp [lowerR]
theorem lowerL_congr : ∀ {l : List S} {t : Ty}, (∀ k ∈ ownKeysL l, tb' k = tb k) → lowerL tb' l t = lowerL tb l t
 | [], t, h => by cases t <;> simp [lowerL]
 | f :: r, t, h => by
  cases t <;> simp only [lowerL]
  rw [lower_congr (fun k hk => h k (by simp [ownKeysL, hk])), lowerL_congr (fun k hk => h k (by simp [ownKeysL, hk]))]
end
theorem freezes_congr : ∀ {ks : List Nat}, (∀ k ∈ ks, tb' k = tb k) → freezes tb' ks = freezes tb ks
 | [], _ => rfl
 | k :: r, h => by
  simp only [freezes, h k List.mem_cons_self, freezes_congr (fun j hj => h j (List.mem_cons_of_mem _ hj))]
theorem errOf_congr {t : TypeId} : ∀ {x : S}, (∀ k ∈ keysOf x, tb' k = tb k) → errOf tb' t x = errOf tb t x
 | .ptr k [], h => by simp only [errOf]; rw [h k (by simp [keysOf])]
 | .ptr k (_ :: _), h => rfl
 | .int .., h | .bool _, h | .str _, h | .sl .., h | .nilsl, h | .arr .., h | .nilp, h | .iref .., h | .gptr .., h | .nilfn, h | .nili, h | .nilmp, h | .err _, h | .junk, h | .own .., h | .twn .., h | .fn .., h | .mp _, h | .st _, h | .tup _, h | .iface .., h => rfl
theorem errOf_key {t : TypeId} : ∀ {x : S} {r : Err × Nat}, errOf tb t x = some r → r.2 ∈ keysOf x
 | .ptr k [], r, h => by
  simp only [errOf] at h
  split at h <;> try contradiction
  rw [Option.map_eq_some_iff] at h
  obtain ⟨_, _, rfl⟩ := h
  simp [keysOf]
 | .ptr k (_ :: _), r, h => by simp [errOf] at h
 | .int .., r, h | .bool _, r, h | .str _, r, h | .sl .., r, h | .nilsl, r, h | .arr .., r, h | .nilp, r, h | .iref .., r, h | .gptr .., r, h | .nilfn, r, h | .nili, r, h | .nilmp, r, h | .err _, r, h | .junk, r, h | .own .., r, h | .twn .., r, h | .fn .., r, h | .mp _, r, h | .st _, r, h | .tup _, r, h | .iface .., r, h => by simp [errOf] at h
theorem puS_congr {C : Ctx} {t : TypeId} {x : S} (h : ∀ k ∈ keysOf x, tb' k = tb k) : puS C tb' t x = puS C tb t x := by
 unfold puS
 cases tyOf C.P FUEL t with
 | none => rfl
 | some ty => simp only [lower_congr (fun k hk => h k (own_keys hk)), freezes_congr (fun k hk => h k (own_keys hk))]
theorem listOf_congr {e : Ty} {x : S} (h : ∀ k ∈ keysOf x, tb' k = tb k) : listOf tb' e x = listOf tb e x := by
 cases x <;> simp only [listOf]
 ·rename_i u k
  rw [h k (by simp [keysOf])]
 ·rename_i u k n
  rw [h k (by simp [keysOf])]
theorem lenS_congr {x : S} (h : ∀ k ∈ keysOf x, tb' k = tb k) : lenS tb' x = lenS tb x := by
 cases x <;> simp only [lenS]
 ·rename_i u k
  rw [h k (by simp [keysOf])]
 ·rename_i u k n
  rw [h k (by simp [keysOf])]
theorem setT_congr {low low' : S → (t : Ty) → Option t.den} {v : S} (h : ∀ t, low' v t = low v t) : ∀ {t : Ty} {p : List Step} {x : t.den}, setT t x p low' v = setT t x p low v := by
 intro t
 induction t with
 | int k | nw k | bool | str | slice e _ | unit | err | rose a _ =>
  intro p x
  cases p with
  | nil => simp only [setT]; exact h _
  | cons s p => simp [setT]
 | arr n e ih =>
  intro p x
  cases p with
  | nil => simp only [setT]; exact h _
  | cons s p => cases s <;> simp [setT, ih]
 | pair a b iha ihb =>
  intro p x
  cases p with
  | nil => simp only [setT]; exact h _
  | cons s p =>
   cases s with
   | idx j => simp [setT]
   | fld j => cases j <;> simp [setT, iha, ihb]
theorem setS_congr {low low' : S → (t : Ty) → Option t.den} {v : S} (h : ∀ t, low' v t = low v t) : ∀ {p : List Step} {s : S}, setS low' p s v = setS low p s v
 | [], s => rfl
 | .fld i :: p, s => by
  cases s <;> simp only [setS]
  rename_i fs
  cases fs[i]? with
  | none => rfl
  | some f => simp only [Option.bind_some, setS_congr h]
 | .idx i :: p, s => by
  cases s <;> simp only [setS]
  rw [setT_congr h]
theorem setE_congr {low low' : S → (t : Ty) → Option t.den} {v : S} (h : ∀ t, low' v t = low v t) {ent : Ent} {p : List Step} : setE low' ent p v = setE low ent p v := by
 cases ent with
 | box s fz => cases fz <;> simp only [setE, setS_congr h]
 | buf e xs fz => cases fz <;> cases p with
  | nil => simp [setE]
  | cons s p => cases s <;> simp only [setE, setT_congr h]
 | map => simp [setE]
theorem parts_congr {C : Ctx} {e : Ty} {ev ev' : Operand → S} : ∀ (ps : List (Nat × Operand)) (xs : List e.den), (∀ q ∈ ps, ev' q.2 = ev q.2) → (∀ q ∈ ps, ∀ k ∈ keysOf (ev q.2), tb' k = tb k) →
  addParts C tb' e ev' ps xs = addParts C tb e ev ps xs ∧ partKeys ev' ps = partKeys ev ps ∧ freezes tb' (partKeys ev ps) = freezes tb (partKeys ev ps)
 | [], xs, _, _ => ⟨rfl, rfl, rfl⟩
 | (i, x) :: r, xs, h1, h2 => by
  have hx := h1 (i, x) List.mem_cons_self
  simp only at hx
  have hk := h2 (i, x) List.mem_cons_self
  simp only at hk
  have hl : lower tb' (ev x) e = lower tb (ev x) e := lower_congr (fun k hk' => hk k (own_keys hk'))
  have ih := fun ys => parts_congr (C := C) (e := e) r ys (fun q hq => h1 q (List.mem_cons_of_mem _ hq)) (fun q hq => h2 q (List.mem_cons_of_mem _ hq))
  refine ⟨?_, ?_, ?_⟩
  ·simp only [addParts, hx, hl]
   split
   ·split
    ·exact (ih _).1
    ·rfl
   ·rfl
  ·simp only [partKeys, hx, (ih xs).2.1]
  ·refine freezes_congr fun k hk' => ?_
   simp only [partKeys, List.mem_append] at hk'
   rcases hk' with hk' | hk'
   ·exact hk k (own_keys hk')
   ·have : ∀ (ps : List (Nat × Operand)), k ∈ partKeys ev ps → ∃ q ∈ ps, k ∈ ownKeys (ev q.2) := by
     intro ps
     induction ps with
     | nil => intro h; simp [partKeys] at h
     | cons q ps ih =>
      obtain ⟨n, y⟩ := q
      intro h
      simp only [partKeys, List.mem_append] at h
      rcases h with h | h
      ·exact ⟨(n, y), List.mem_cons_self, h⟩
      ·obtain ⟨q, h3, h4⟩ := ih h; exact ⟨q, List.mem_cons_of_mem _ h3, h4⟩
    obtain ⟨q, h3, h4⟩ := this r hk'
    exact h2 q (List.mem_cons_of_mem _ h3) k (own_keys h4)
theorem fields_congr {P : Program} {fs : Array Field} {zs : List S} {ev ev' : Operand → S} : ∀ (ps : List (Nat × Operand)) (xs : List S), (∀ q ∈ ps, ev' q.2 = ev q.2) → addFields fs P ev' zs ps xs = addFields fs P ev zs ps xs
 | [], xs, _ => rfl
 | (i, x) :: r, xs, h1 => by
  have hx := h1 (i, x) List.mem_cons_self
  simp only at hx
  simp only [addFields, hx, fields_congr r _ (fun q hq => h1 q (List.mem_cons_of_mem _ hq))]
theorem keysL_mem {l : List S} {s : S} (h : s ∈ l) : ∀ k ∈ keysOf s, k ∈ keysOfL l := by
 obtain ⟨j, hj⟩ := List.mem_iff_getElem?.1 h
 exact keysL_get hj
theorem builtin_congr {C : Ctx} {b : Builtin} {tys : Array TypeId} {ep d : Nat} {l : List S} (h : lookOf (.call { callee := .builtin b, args := #[], argTypes := tys }) = .entry → ∀ k ∈ keysOfL l, tb' k = tb k) :
  builtinS C b tys ep d l tb' = builtinS C b tys ep d l tb := by
 cases b
 case max => cases l with
  | nil => rfl
  | cons x r => cases r with
   | nil => cases x <;> rfl
   | cons y r => cases r <;> cases x <;> (try cases y) <;> rfl
 case min => cases l with
  | nil => rfl
  | cons x r => cases r with
   | nil => cases x <;> rfl
   | cons y r => cases r <;> cases x <;> (try cases y) <;> rfl
 case len =>
  replace h := h rfl
  cases l with
  | nil => rfl
  | cons x r =>
   cases r with
   | cons y r => cases x <;> rfl
   | nil =>
    have hl : lenS tb' x = lenS tb x := lenS_congr (fun k hk => h k (by simp [keysOfL, hk]))
    cases x <;> simp only [builtinS, hl]
    rename_i k
    rw [h k (by simp [keysOfL, keysOf])]
 case append =>
  replace h := h rfl
  cases l with
  | nil => rfl
  | cons x r =>
   cases r with
   | nil => rfl
   | cons y r =>
    cases r with
    | cons z r => rfl
    | nil =>
     have hl : ∀ e, listOf tb' e y = listOf tb e y := fun e => listOf_congr (fun k hk => h k (by simp [keysOfL, hk]))
     simp only [builtinS, hl]
     cases x <;> try rfl
     rename_i u k
     simp only [h k (by simp [keysOfL, keysOf])]
 case copy =>
  replace h := h rfl
  cases l with
  | nil => rfl
  | cons x r =>
   cases r with
   | nil => cases x <;> rfl
   | cons y r =>
    cases r with
    | cons z r => cases x <;> rfl
    | nil =>
     have hl : ∀ e, listOf tb' e y = listOf tb e y := fun e => listOf_congr (fun k hk => h k (by simp [keysOfL, hk]))
     cases x <;> try rfl
     ·rename_i u k
      simp only [builtinS, hl, h k (by simp [keysOfL, keysOf])]
     ·rename_i u k n
      simp only [builtinS, hl, h k (by simp [keysOfL, keysOf])]
 case cap =>
  replace h := h rfl
  cases l with
  | nil => rfl
  | cons x r => cases r with
   | nil =>
    cases x <;> try rfl
    rename_i u k n
    simp only [builtinS, h k (by simp [keysOfL, keysOf])]
   | cons y r => cases r <;> cases x <;> rfl
 all_goals (cases l with
  | nil => rfl
  | cons x r => cases r with
   | nil => cases x <;> rfl
   | cons y r => cases r <;> cases x <;> rfl)
theorem asIO_congr {ev ev' : Operand → S} {x : Option Operand} (h : ∀ y, x = some y → ev' y = ev y) : asIO ev' x = asIO ev x := by
 cases x with
 | none => rfl
 | some y => simp only [asIO, h y rfl]
theorem opS_congr {C : Ctx} {o : Oper} {ep d : Nat} {ev ev' : Operand → S} (hev : ∀ x ∈ o.op.operands.toList, ev' x = ev x)
  (htb : lookOf o.op = .entry → ∀ k ∈ keysOfL (o.op.operands.toList.map ev), tb' k = tb k) : opS C o ep d ev' tb' = opS C o ep d ev tb := by
 obtain ⟨dst, op, type, pos, after, guard⟩ := o
 simp only at hev htb
 have one : ∀ x, x ∈ op.operands.toList → lookOf op = .entry → ∀ k ∈ keysOf (ev x), tb' k = tb k := fun x hx hl k hk => htb hl k (keysL_mem (List.mem_map.2 ⟨x, hx, rfl⟩) k hk)
 cases op
 case move x => simp only [opS, hev x (by simp [Op.operands])]
 case assign x =>
  have h2 := one x (by simp [Op.operands]) rfl
  simp only [opS, hev x (by simp [Op.operands]), puS_congr h2]
 case pick c x y => simp only [opS, hev c (by simp [Op.operands]), hev x (by simp [Op.operands]), hev y (by simp [Op.operands])]
 case alloc t => rfl
 case box t x => simp only [opS, hev x (by simp [Op.operands])]
 case build t ps =>
  have hp : ∀ q ∈ ps.toList, q.2 ∈ (Op.build t ps).operands.toList := by intro q hq; simp only [Op.operands, List.mem_map]; exact ⟨q, hq, rfl⟩
  have h1 : ∀ q ∈ ps.toList, ev' q.2 = ev q.2 := fun q hq => hev q.2 (hp q hq)
  simp only [opS]
  split
  ·rfl
  ·split
   ·rw [fields_congr ps.toList _ h1]
   ·rename_i n e zs _ _ _ _
    obtain ⟨q1, q2, q3⟩ := parts_congr (C := C) (e := e) (tb := tb) (tb' := tb') ps.toList zs h1 (fun q hq => one q.2 (hp q hq) rfl)
    rw [q1, q2, q3]
   ·rfl
 case buildSlice t n ps =>
  have hp : ∀ q ∈ ps.toList, q.2 ∈ (Op.buildSlice t n ps).operands.toList := by intro q hq; simp only [Op.operands, List.mem_map]; exact ⟨q, hq, rfl⟩
  have h1 : ∀ q ∈ ps.toList, ev' q.2 = ev q.2 := fun q hq => hev q.2 (hp q hq)
  simp only [opS]
  split
  ·rfl
  ·split
   ·rename_i e _
    obtain ⟨q1, q2, q3⟩ := parts_congr (C := C) (e := e) (tb := tb) (tb' := tb') ps.toList (List.replicate n e.zero) h1 (fun q hq => one q.2 (hp q hq) rfl)
    rw [q1, q2, q3]
   ·rfl
 case load t x =>
  have hk := one x (by simp [Op.operands]) rfl
  simp only [opS, hev x (by simp [Op.operands])]
  split
  ·rfl
  ·split <;> try rfl
   rename_i k p hs
   rw [hk k (by rw [hs]; simp [keysOf])]
 case store t x y =>
  have hk := one x (by simp [Op.operands]) rfl
  have hy := one y (by simp [Op.operands]) rfl
  simp only [opS, hev x (by simp [Op.operands]), hev y (by simp [Op.operands])]
  split
  ·rfl
  ·split <;> try rfl
   rename_i k p hs
   have hst : storePuS C tb' t k p (ev y) = storePuS C tb t k p (ev y) := by
    unfold storePuS
    rw [hk k (by rw [hs]; simp [keysOf]), puS_congr hy]
    have hset : ∀ (p : List Step) (s v : S), thru p = false → setS (fun s t => lower tb' s t) p s v = setS (fun s t => lower tb s t) p s v := by
     intro p
     induction p with
     | nil => intro s v _; rfl
     | cons x p ih =>
      intro s v h
      cases x with
      | idx => simp [thru] at h
      | fld i =>
       cases s <;> simp only [setS]
       rename_i fs
       cases fs[i]? with
       | none => rfl
       | some f => simp only [Option.bind_some, ih f v (by simpa [thru] using h)]
    split <;> try rfl
    split <;> try rfl
    rename_i q hth hq
    rw [hset _ _ _ hth]
   rw [hst]
   split
   ·rfl
   rw [hk k (by rw [hs]; simp [keysOf])]
   cases tb k with
   | none => rfl
   | some ent =>
    simp only [Option.bind_some]
    have hfr : freezes tb' (ownKeys (ev y)) = freezes tb (ownKeys (ev y)) := freezes_congr (fun k hk => hy k (own_keys hk))
    cases ent with
    | box s fz =>
     cases hth : thru p with
     | false =>
      simp only [Bool.not_false]
      have : ∀ v, setE (fun s t => lower tb' s t) (.box s fz) p v = setE (fun s t => lower tb s t) (.box s fz) p v := by
       intro v
       cases fz <;> simp only [setE]
       congr 1
       have aux : ∀ (p : List Step) (s : S), thru p = false → setS (fun s t => lower tb' s t) p s v = setS (fun s t => lower tb s t) p s v := by
        intro p
        induction p with
        | nil => intro s _; rfl
        | cons st p ih =>
         intro s hth
         cases st with
         | idx j => simp [thru] at hth
         | fld j =>
          cases s <;> simp only [setS]
          rename_i fs
          cases fs[j]? with
          | none => rfl
          | some f => simp only [Option.bind_some, ih f (by simpa [thru] using hth)]
       exact aux p s hth
      rw [this]
     | true =>
      simp only [Bool.not_true, hfr]
      rw [setE_congr (low := fun s t => lower tb s t) (low' := fun s t => lower tb' s t) (fun t => lower_congr (fun k hk => hy k (own_keys hk)))]
    | buf e xs fz =>
     simp only [hfr]
     rw [setE_congr (low := fun s t => lower tb s t) (low' := fun s t => lower tb' s t) (fun t => lower_congr (fun k hk => hy k (own_keys hk)))]
    | map kt vt m fz => simp [setE]
 case nilCheck x => simp only [opS, hev x (by simp [Op.operands])]
 case binOp op xT x y yT => simp only [opS, hev x (by simp [Op.operands]), hev y (by simp [Op.operands])]
 case unOp op t x => simp only [opS, hev x (by simp [Op.operands])]
 case convert src dst x =>
  have hk := one x (by simp [Op.operands]) rfl
  simp only [opS, hev x (by simp [Op.operands])]
  rw [listOf_congr hk]
  have hm : markS C dst (ev x) tb' = markS C dst (ev x) tb := by
   unfold markS
   generalize ev x = s at hk
   split
   ·rw [hk _ (by simp [keysOf])]
   ·rfl
  rw [hm]
 case makeFunc fn fst cap =>
  have : cap.toList.map ev' = cap.toList.map ev := List.map_congr_left fun x hx => hev x (by simp [Op.operands, hx])
  cases fn <;> simp only [opS, this]
 case makeInterface t x =>
  have h1 := hev x (by simp [Op.operands])
  have h2 := one x (by simp [Op.operands]) rfl
  simp only [opS, h1, errOf_congr h2]
  cases hq : errOf tb t (ev x) with
  | none => rfl
  | some r => simp only [freezes_congr (fun k hk => h2 k (by rw [List.mem_singleton.1 hk]; exact errOf_key hq))]
 case makeSlice t l c => simp only [opS, hev l (by simp [Op.operands]), hev c (by simp [Op.operands])]
 case slice t x lo hi mx =>
  have hk := one x (by simp [Op.operands]) rfl
  simp only [opS, hev x (by simp [Op.operands])]
  rw [asIO_congr (x := lo) (fun y hy => hev y (by simp [Op.operands, hy])), asIO_congr (x := hi) (fun y hy => hev y (by simp [Op.operands, hy])), asIO_congr (x := mx) (fun y hy => hev y (by simp [Op.operands, hy]))]
  generalize ev x = s at hk
  split
  ·rfl
  split <;> try rfl
  generalize C.P.underlying t = u
  cases u with
  | none => cases s <;> rfl
  | some d =>
   cases d <;> cases s <;> try rfl
   ·rename_i k; simp only [hk k (by simp [keysOf])]
   ·rename_i k m; simp only [hk k (by simp [keysOf])]
   ·rename_i k p
    cases p with
    | nil => simp only [hk k (by simp [keysOf])]
    | cons st p =>
     cases st with
     | idx j => rfl
     | fld j =>
      cases p with
      | nil => simp only [hk k (by simp [keysOf])]
      | cons st p => rfl
 case fieldAddr t x n =>
  have hk := one x (by simp [Op.operands]) rfl
  simp only [opS, hev x (by simp [Op.operands])]
  generalize ev x = s at hk
  split
  ·rfl
  split <;> try rfl
  split <;> try rfl
  split <;> try rfl
  cases s <;> try rfl
  rename_i k p
  simp only [hk k (by simp [keysOf])]
 case field t x n => simp only [opS, hev x (by simp [Op.operands])]
 case indexAddr t x y =>
  have hk := one x (by simp [Op.operands]) rfl
  simp only [opS, hev x (by simp [Op.operands]), hev y (by simp [Op.operands])]
  generalize ev x = s at hk
  split
  ·rfl
  split <;> try rfl
  generalize C.P.underlying t = u
  cases u with
  | none => cases s <;> rfl
  | some d =>
   cases d <;> cases s <;> try rfl
   ·rename_i k; simp only [hk k (by simp [keysOf])]
   ·rename_i k m; simp only [hk k (by simp [keysOf])]
   ·rename_i k p; simp only [hk k (by simp [keysOf])]
   ·rename_i u x; cases u <;> rfl
 case index t x y => simp only [opS, hev x (by simp [Op.operands]), hev y (by simp [Op.operands])]
 case extract x n => simp only [opS, hev x (by simp [Op.operands])]
 case makeMap t rs =>
  cases rs with
  | none => rfl
  | some x => simp only [opS, hev x (by simp [Op.operands])]
 case mapUpdate t m k v =>
  have hm := one m (by simp [Op.operands]) rfl
  have hk := one k (by simp [Op.operands]) rfl
  have hv := one v (by simp [Op.operands]) rfl
  simp only [opS, hev m (by simp [Op.operands]), hev k (by simp [Op.operands]), hev v (by simp [Op.operands])]
  split
  ·rfl
  unfold mapUpdS
  split <;> try rfl
  rename_i key _ _ hs _
  rw [hm key (by rw [hs]; simp [keysOf])]
  have h1 : ∀ t, lower tb' (ev k) t = lower tb (ev k) t := fun t => lower_congr (fun k hk' => hk k (own_keys hk'))
  have h2 : ∀ t, lower tb' (ev v) t = lower tb (ev v) t := fun t => lower_congr (fun k hk' => hv k (own_keys hk'))
  have h3 : freezes tb' (ownKeys (ev v)) = freezes tb (ownKeys (ev v)) := freezes_congr (fun k hk' => hv k (own_keys hk'))
  simp only [h1, h2, h3]
 case insert t m k v =>
  have hm := one m (by simp [Op.operands]) rfl
  have hk := one k (by simp [Op.operands]) rfl
  have hv := one v (by simp [Op.operands]) rfl
  simp only [opS, hev m (by simp [Op.operands]), hev k (by simp [Op.operands]), hev v (by simp [Op.operands])]
  split
  ·rfl
  unfold mapUpdS
  split <;> try rfl
  rename_i key _ _ hs _
  rw [hm key (by rw [hs]; simp [keysOf])]
  have h1 : ∀ t, lower tb' (ev k) t = lower tb (ev k) t := fun t => lower_congr (fun k hk' => hk k (own_keys hk'))
  have h2 : ∀ t, lower tb' (ev v) t = lower tb (ev v) t := fun t => lower_congr (fun k hk' => hv k (own_keys hk'))
  have h3 : freezes tb' (ownKeys (ev v)) = freezes tb (ownKeys (ev v)) := freezes_congr (fun k hk' => hv k (own_keys hk'))
  simp only [h1, h2, h3]
 case lookup t m k okk =>
  have hm := one m (by simp [Op.operands]) rfl
  have hk := one k (by simp [Op.operands]) rfl
  simp only [opS, hev m (by simp [Op.operands]), hev k (by simp [Op.operands])]
  split
  ·rfl
  have h1 : ∀ t, lower tb' (ev k) t = lower tb (ev k) t := fun t => lower_congr (fun k hk' => hk k (own_keys hk'))
  generalize ev m = s at hm
  generalize C.P.underlying t = u
  cases s <;> try rfl
  rename_i key
  cases u with
  | none => rfl
  | some d =>
   cases d <;> try rfl
   simp only [hm key (by simp [keysOf]), h1]
 case call c =>
  obtain ⟨cal, args, tys⟩ := c
  cases cal with
  | builtin b =>
   have ha : args.toList.map ev' = args.toList.map ev := List.map_congr_left fun x hx => hev x (by simpa [Op.operands, Call.operands] using hx)
   simp only [opS, ha]
   rw [builtin_congr (tb := tb) (tb' := tb')]
   intro hl k hk
   refine htb ?_ k (by simpa [Op.operands, Call.operands] using hk)
   cases b <;> first | rfl | (simp [lookOf] at hl)
  | value f => rfl
  | invoke f n => rfl
 all_goals rfl
end
end Go.Ab
