/- What the interpreter's values say of memory, and what keeps it so. -/
import Derived.Test.YtlhinijgdffcdaaGreatDoorDef
import Derived.Laws.Sem
namespace Go.Ab
open Go
set_option linter.unusedVariables false
def MAXL : Nat := 4611686018427387904
def CAPM : Nat := 9223372036854775807
def Room (w : World) (b o n : Nat) : Prop := b < w.heap.size ∧ ∀ j, (w.cell? ⟨b, j, none⟩).isSome → o ≤ j ∧ j < o + n
def ByteBlk (w : World) (b : Nat) : Prop := ∀ o v, w.cell? ⟨b, o, none⟩ = some v → ∃ n, v = .int .u8 n
def Lies (w : World) (b o : Nat) (cs : List Value) : Prop := ∀ i v, cs[i]? = some v → w.cell? ⟨b, o + i, none⟩ = some v
inductive RtR {α : Type} (w : World) (ok : Nat → Prop) (sz : Nat) (ra : List Value → α → Prop) : Rose α → List Value → Prop
 | leaf {x : α} {c1 : List Value} {a : Option Addr} {cap : Nat} (h : ra c1 x) : RtR w ok sz ra (.node x []) (c1 ++ [.slice a 0 cap])
 | node {x : α} {ks : List (Rose α)} {c1 : List Value} {b o cap : Nat} (e : Nat → List Value) (h : ra c1 x) (hc : ks.length ≤ cap) (hm : ks.length ≤ MAXL) (hk : ok b) (hb : b < w.heap.size)
   (hl : ∀ i, i < ks.length → Lies w b (o + i * sz) (e i)) (hr : ∀ i (h : i < ks.length), RtR w ok sz ra ks[i] (e i)) : RtR w ok sz ra (.node x ks) (c1 ++ [.slice (some ⟨b, o, none⟩) ks.length cap])
def intsV (xs : List Int) : List Value := xs.map (Value.int .i64)
def RtE (w : World) (ok : Nat → Prop) : Err → List Value → Prop
 | .nil, cs => cs = [.nilIface]
 | .leaf t xs, cs => ∃ b, cs = [.iface t (.pointer (some ⟨b, 0, none⟩))] ∧ ok b ∧ b < w.heap.size ∧ (∀ n ∈ xs, inK .i64 n = true) ∧ Lies w b 0 (intsV xs)
 | .wrap t pre x post, cs => ∃ b c, cs = [.iface t (.pointer (some ⟨b, 0, none⟩))] ∧ ok b ∧ b < w.heap.size ∧ (∀ n ∈ pre ++ post, inK .i64 n = true) ∧ Lies w b 0 (intsV pre ++ c :: intsV post) ∧ RtE w ok x [c]
 | .raw t v, cs => cs = [.iface t v]
def Rt (w : World) (ok : Ty → Nat → Prop) : (t : Ty) → List Value → t.den → Prop
 | .int k, cs, n => cs = [.int k n] ∧ inK k n = true
 | .bool, cs, b => cs = [.bool b]
 | .str, cs, s => ∃ bs : ByteArray, cs = [.string bs] ∧ s = bytesL bs ∧ s.length ≤ MAXL
 | .slice e, cs, xs => ∃ a cap, cs = [.slice a xs.length cap] ∧ xs.length ≤ cap ∧ xs.length ≤ MAXL ∧
   (xs = [] ∨ ∃ b o, a = some ⟨b, o, none⟩ ∧ ok e b ∧ b < w.heap.size ∧
    ∀ i (h : i < xs.length), ∃ ecs, Lies w b (o + i * e.size) ecs ∧ Rt w ok e ecs xs[i])
 | .arr n e, cs, xs => xs.length = n ∧ ∃ css : List (List Value), cs = css.flatten ∧ css.length = n ∧
   ∀ i (h : i < xs.length), ∃ ecs, css[i]? = some ecs ∧ Rt w ok e ecs xs[i]
 | .unit, cs, _ => cs = []
 | .pair a b, cs, x => ∃ c1 c2, cs = c1 ++ c2 ∧ Rt w ok a c1 x.1 ∧ Rt w ok b c2 x.2
 | .rose a, cs, x => RtR w (ok (.rose a)) (a.size + 1) (Rt w ok a) x cs
 | .err, cs, x => RtE w (ok .err) x cs
 | .nw k, cs, n => cs = [.int k n] ∧ inK k n = true
theorem rt_rose {w : World} {ok : Ty → Nat → Prop} {a : Ty} {cs : List Value} {x : Rose a.den} : Rt w ok (.rose a) cs x ↔ ∃ c1 c2, cs = c1 ++ c2 ∧ Rt w ok a c1 x.lab ∧ Rt w ok (.slice (.rose a)) c2 x.kids := by
 constructor
 ·intro h
  cases h with
  | leaf h => exact ⟨_, _, rfl, h, _, _, rfl, Nat.zero_le _, Nat.zero_le _, .inl rfl⟩
  | node e h hc hm hk hb hl hr => exact ⟨_, _, rfl, h, _, _, rfl, hc, hm, .inr ⟨_, _, rfl, hk, hb, fun i hi => ⟨e i, hl i hi, hr i hi⟩⟩⟩
 ·rintro ⟨c1, c2, rfl, h1, ad, cap, rfl, h2, h3, h4⟩
  obtain ⟨y, ks⟩ := x
  rcases h4 with h4 | ⟨b, o, rfl, hk, hb, hel⟩
  ·have h4 : ks = [] := h4
   subst h4
   exact .leaf h1
  ·have hel : ∀ i (h : i < ks.length), ∃ ecs, Lies w b (o + i * (a.size + 1)) ecs ∧ RtR w (ok (.rose a)) (a.size + 1) (Rt w ok a) ks[i] ecs := hel
   obtain ⟨e, he⟩ : ∃ e : Nat → List Value, ∀ i (h : i < ks.length), Lies w b (o + i * (a.size + 1)) (e i) ∧ RtR w (ok (.rose a)) (a.size + 1) (Rt w ok a) ks[i] (e i) := by
    refine ⟨fun i => if h : i < ks.length then Classical.choose (hel i h) else [], fun i h => ?_⟩
    simp only [h, dif_pos]
    exact Classical.choose_spec (hel i h)
   exact .node e h1 h2 h3 hk hb (fun i hi => (he i hi).1) (fun i hi => (he i hi).2)
theorem RtE.one {w : World} {ok : Nat → Prop} : ∀ {x : Err} {cs : List Value}, RtE w ok x cs → ∃ v, cs = [v] ∧ v.oneCell' = true
 | .nil, _, h => ⟨_, h, by simp [Value.oneCell']⟩
 | .leaf .., _, h => by obtain ⟨b, rfl, _⟩ := h; exact ⟨_, rfl, by simp [Value.oneCell']⟩
 | .wrap .., _, h => by obtain ⟨b, c, rfl, _⟩ := h; exact ⟨_, rfl, by simp [Value.oneCell']⟩
 | .raw .., _, h => ⟨_, h, by simp [Value.oneCell']⟩
theorem RtE.mono {w w' : World} {ok ok' : Nat → Prop} (hk : ∀ b, ok b → b < w.heap.size → ok' b ∧ b < w'.heap.size)
  (hc : ∀ b, ok b → ∀ o v, w.cell? ⟨b, o, none⟩ = some v → w'.cell? ⟨b, o, none⟩ = some v) : ∀ {x : Err} {cs : List Value}, RtE w ok x cs → RtE w' ok' x cs
 | .nil, _, h => h
 | .raw .., _, h => h
 | .leaf .., _, h => by
  obtain ⟨b, rfl, h1, h2, h3, h4⟩ := h
  exact ⟨b, rfl, (hk b h1 h2).1, (hk b h1 h2).2, h3, fun j v hj => hc b h1 _ _ (h4 j v hj)⟩
 | .wrap .., _, h => by
  obtain ⟨b, c, rfl, h1, h2, h3, h4, h5⟩ := h
  exact ⟨b, c, rfl, (hk b h1 h2).1, (hk b h1 h2).2, h3, fun j v hj => hc b h1 _ _ (h4 j v hj), RtE.mono hk hc h5⟩
theorem RtR.mono {α : Type} {w w' : World} {ok ok' : Nat → Prop} {sz : Nat} {ra ra' : List Value → α → Prop} (hk : ∀ b, ok b → b < w.heap.size → ok' b ∧ b < w'.heap.size)
  (hc : ∀ b, ok b → ∀ o v, w.cell? ⟨b, o, none⟩ = some v → w'.cell? ⟨b, o, none⟩ = some v) (ha : ∀ cs x, ra cs x → ra' cs x) {x : Rose α} {cs : List Value} (h : RtR w ok sz ra x cs) : RtR w' ok' sz ra' x cs := by
 induction h with
 | leaf h => exact .leaf (ha _ _ h)
 | node e h hc' hm hk' hb hl hr ih => exact .node e (ha _ _ h) hc' hm (hk _ hk' hb).1 (hk _ hk' hb).2 (fun i hi j v hj => hc _ hk' _ _ (hl i hi j v hj)) ih
theorem flatten_len (css : List (List Value)) (m : Nat) (h : ∀ c ∈ css, c.length = m) : css.flatten.length = css.length * m := by
 induction css with
 | nil => simp
 | cons c r ih =>
  rw [List.flatten_cons, List.length_append, ih (fun x hx => h x (List.mem_cons_of_mem _ hx)), h c List.mem_cons_self, List.length_cons, Nat.succ_mul]
  omega
theorem Rt.length {w : World} {ok : Ty → Nat → Prop} : ∀ {t : Ty} {cs : List Value} {x : t.den}, Rt w ok t cs x → cs.length = t.size := by
 intro t
 induction t with
 | int k => intro cs x h; obtain ⟨rfl, _⟩ := h; rfl
 | nw k => intro cs x h; obtain ⟨rfl, _⟩ := h; rfl
 | bool => intro cs x h; cases h; rfl
 | str => intro cs x h; obtain ⟨bs, rfl, _⟩ := h; rfl
 | slice e _ => intro cs x h; obtain ⟨a, c, rfl, _⟩ := h; rfl
 | arr n e ih =>
  intro cs x h
  obtain ⟨hl, css, rfl, hn, hc⟩ := h
  rw [flatten_len css e.size, hn]; rfl
  intro c hc'
  obtain ⟨i, hi, rfl⟩ := List.getElem_of_mem hc'
  obtain ⟨ecs, he, hr⟩ := hc i (by omega)
  rw [List.getElem?_eq_getElem hi] at he
  cases he
  exact ih hr
 | unit => intro cs x h; cases h; rfl
 | pair a b iha ihb =>
  intro cs x h
  obtain ⟨c1, c2, rfl, h1, h2⟩ := h
  rw [List.length_append, iha h1, ihb h2]; rfl
 | rose a ih =>
  intro cs x h
  obtain ⟨c1, c2, rfl, h1, a, c, rfl, _⟩ := rt_rose.1 h
  rw [List.length_append, ih h1]; rfl
 | err =>
  intro cs x h
  obtain ⟨v, rfl, _⟩ := RtE.one h; rfl
theorem Rt.mono {w w' : World} {ok ok' : Ty → Nat → Prop}
  (hk : ∀ t b, ok t b → b < w.heap.size → ok' t b ∧ b < w'.heap.size)
  (hc : ∀ t b, ok t b → ∀ o v, w.cell? ⟨b, o, none⟩ = some v → w'.cell? ⟨b, o, none⟩ = some v) :
  ∀ {t : Ty} {cs : List Value} {x : t.den}, Rt w ok t cs x → Rt w' ok' t cs x := by
 intro t
 induction t with
 | int k => intro cs x h; exact h
 | nw k => intro cs x h; exact h
 | bool => intro cs x h; exact h
 | str => intro cs x h; exact h
 | slice e ih =>
  intro cs x h
  obtain ⟨a, c, h1, h2, h3, h4⟩ := h
  refine ⟨a, c, h1, h2, h3, ?_⟩
  rcases h4 with h4 | ⟨b, o, ha, hok, hb, hel⟩
  ·exact .inl h4
  ·refine .inr ⟨b, o, ha, (hk _ b hok hb).1, (hk _ b hok hb).2, fun i hi => ?_⟩
   obtain ⟨ecs, hl, hr⟩ := hel i hi
   exact ⟨ecs, fun j v hj => hc _ b hok _ _ (hl j v hj), ih hr⟩
 | arr n e ih =>
  intro cs x h
  obtain ⟨hl, css, rfl, hn, hel⟩ := h
  refine ⟨hl, css, rfl, hn, fun i hi => ?_⟩
  obtain ⟨ecs, he, hr⟩ := hel i hi
  exact ⟨ecs, he, ih hr⟩
 | unit => intro cs x h; exact h
 | pair a b iha ihb =>
  intro cs x h
  obtain ⟨c1, c2, rfl, h1, h2⟩ := h
  exact ⟨c1, c2, rfl, iha h1, ihb h2⟩
 | rose a ih => intro cs x h; exact RtR.mono (hk _) (hc _) (fun _ _ q => ih q) h
 | err => intro cs x h; exact RtE.mono (hk _) (hc _) h
def offT : Ty → List Step → Nat
 | _, [] => 0
 | .pair a _, .fld 0 :: p => offT a p
 | .pair a b, .fld (i + 1) :: p => a.size + offT b (.fld i :: p)
 | .arr _ e, .idx i :: p => i.toNat * e.size + offT e p
 | .rose a, .fld i :: p => if i < a.nfld then offT a (.fld i :: p) else a.size
 | _, _ :: _ => 0
termination_by structural t => t
def pathT : Ty → List Step → Prop
 | _, [] => True
 | .pair a _, .fld 0 :: p => pathT a p
 | .pair _ b, .fld (i + 1) :: p => pathT b (.fld i :: p)
 | .arr n e, .idx i :: p => 0 ≤ i ∧ i.toNat < n ∧ pathT e p
 | .rose a, .fld i :: p => if i < a.nfld then pathT a (.fld i :: p) else i = a.nfld ∧ a.chain = true ∧ p = []
 | _, _ :: _ => False
termination_by structural t => t
def offS : List Step → S → Nat
 | [], _ => 0
 | .fld i :: p, .st fs => offL fs i + (match fs[i]? with | some f => offS p f | none => 0)
 | .idx i :: p, .arr _ e _ => i.toNat * e.size + offT e p
 | _, _ => 0
def pathS : List Step → S → Prop
 | [], _ => True
 | .fld i :: p, .st fs => match fs[i]? with | some f => pathS p f | none => False
 | .idx i :: p, .arr n e _ => 0 ≤ i ∧ i.toNat < n ∧ pathT e p
 | _, _ => False
def offE : Ent → List Step → Nat
 | .box s _, p => offS p s
 | .buf e _ _, .idx i :: p => i.toNat * e.size + offT e p
 | _, _ => 0
def pathE : Ent → List Step → Prop
 | .box s _, p => pathS p s
 | .buf e xs _, .idx i :: p => 0 ≤ i ∧ i.toNat < xs.length ∧ pathT e p
 | _, _ => False
structure Env where
 κ : Nat → Option (Nat × Nat)     -- where an entry lies: block, first cell
 av : Ty → Nat → Prop             -- blocks that are somebody else's to turn, and in which no elements of a type may lie
 gl : Nat → Option S              -- what package-level variables read as
def Env.ok (E : Env) (tb : Tbl) (t : Ty) (b : Nat) : Prop := ¬ E.av t b ∧ ∀ k p e, E.κ k = some p → tb k = some e → e.fz = false → p.1 ≠ b
mutual
def Rel (E : Env) (tb : Tbl) (w : World) : S → List Value → Prop
 | .junk, cs => ∃ v, cs = [v]
 | .int k n, cs => cs = [.int k n] ∧ inK k n = true
 | .bool b, cs => cs = [.bool b]
 | .str s, cs => Rt w (E.ok tb) .str cs s
 | .sl e xs, cs => Rt w (E.ok tb) (.slice e) cs xs
 | .nilsl, cs => ∃ a, cs = [.slice a 0 0]
 | .arr n e xs, cs => Rt w (E.ok tb) (.arr n e) cs xs
 | .st fs, cs => RelL E tb w fs cs
 | .own _ k, cs =>
  match tb k with
  | some (.buf e xs _) => ∃ a cap, cs = [.slice a xs.length cap] ∧ xs.length ≤ cap ∧
    match E.κ k with
    | some (b, o) => a = some ⟨b, o, none⟩ ∧ (∀ i, i < cap * e.size → (w.cell? ⟨b, o + i, none⟩).isSome) ∧ cap ≤ CAPM
    | none => cap = 0
  | _ => ∃ a n c, cs = [.slice a n c]
 | .twn _ k n, cs =>
  match tb k with
  | some (.buf e xs _) => ∃ b o, E.κ k = some (b, o) ∧ 0 ≤ n ∧ (n.toNat ≤ xs.length ∧ Room w b o (xs.length * e.size)) ∧ cs = [.slice (some ⟨b, o, none⟩) n.toNat xs.length]
  | _ => ∃ a n c, cs = [.slice a n c]
 | .ptr k p, cs =>
  match tb k with
  | some ent => pathE ent p ∧ ∃ b o, E.κ k = some (b, o) ∧ cs = [.pointer (some ⟨b, o + offE ent p, none⟩)]
  | none => ∃ a, cs = [.pointer (some a)]
 | .nilp, cs => cs = [.pointer none]
 | .iref t x, cs => ∃ b o ecs, cs = [.pointer (some ⟨b, o, none⟩)] ∧ (∃ t, E.ok tb t b) ∧ b < w.heap.size ∧ Lies w b o ecs ∧ Rt w (E.ok tb) t ecs x
 | .gptr g p, cs =>
  match E.gl g with
  | some s => pathS p s ∧ cs = [.pointer (some ⟨g, offS p s, none⟩)]
  | none => p = [] ∧ cs = [.pointer (some ⟨g, 0, none⟩)]
 | .fn f cap, cs => ∃ vs : List Value, cs = [.func (.func f) #[] vs.toArray] ∧ RelVL E tb w cap vs
 | .nilfn, cs => cs = [.nilFunc]
 | .iface t v, cs => ∃ v', cs = [.iface t v'] ∧ if v.isAgg then ∃ a : Array Value, v' = .agg a ∧ Rel E tb w v a.toList else Rel E tb w v [v']
 | .nili, cs => cs = [.nilIface]
 | .err x, cs => Rt w (E.ok tb) .err cs x
 | .mp k, cs =>
  match tb k with
  | some _ => ∃ b, E.κ k = some (b, 0) ∧ cs = [.map (some b)]
  | none => ∃ b, cs = [.map (some b)]
 | .nilmp, cs => cs = [.map none]
 | .tup fs, cs => ∃ vs : List Value, cs = [.tuple vs.toArray] ∧ RelVL E tb w fs vs
def RelL (E : Env) (tb : Tbl) (w : World) : List S → List Value → Prop
 | [], cs => cs = []
 | f :: r, cs => ∃ c1 c2, cs = c1 ++ c2 ∧ Rel E tb w f c1 ∧ RelL E tb w r c2
def RelVL (E : Env) (tb : Tbl) (w : World) : List S → List Value → Prop
 | [], vs => vs = []
 | f :: r, vs => ∃ v q, vs = v :: q ∧ (if f.isAgg then ∃ a : Array Value, v = .agg a ∧ Rel E tb w f a.toList else Rel E tb w f [v]) ∧ RelVL E tb w r q
end
mutual
theorem Rel.length {E : Env} {tb : Tbl} {w : World} : ∀ {s : S} {cs : List Value}, Rel E tb w s cs → cs.length = s.size
 | .junk, cs, h => by obtain ⟨v, rfl⟩ := h; rfl
 | .int .., cs, h => by obtain ⟨rfl, _⟩ := h; rfl
 | .bool _, cs, h => by cases h; rfl
 | .str _, cs, h => Rt.length (t := .str) h
 | .sl e xs, cs, h => Rt.length (t := .slice e) (x := xs) h
 | .nilsl, cs, h => by obtain ⟨a, rfl⟩ := h; rfl
 | .arr n e xs, cs, h => Rt.length (t := .arr n e) (x := xs) h
 | .st fs, cs, h => by simp only [Rel] at h; simpa [S.size] using RelL.length h
 | .own e k, cs, h => by
  simp only [Rel] at h
  split at h
  ·obtain ⟨a, c, rfl, _⟩ := h; rfl
  ·obtain ⟨a, n, c, rfl⟩ := h; rfl
 | .twn e k n, cs, h => by
  simp only [Rel] at h
  split at h
  ·obtain ⟨b, o, _, _, _, rfl⟩ := h; rfl
  ·obtain ⟨a, n, c, rfl⟩ := h; rfl
 | .ptr k p, cs, h => by
  simp only [Rel] at h
  split at h
  ·obtain ⟨_, b, o, _, rfl⟩ := h; rfl
  ·obtain ⟨v, rfl⟩ := h; rfl
 | .nilp, cs, h => by cases h; rfl
 | .iref t x, cs, h => by obtain ⟨b, o, ecs, rfl, _⟩ := h; rfl
 | .gptr g p, cs, h => by
  simp only [Rel] at h
  split at h
  ·obtain ⟨_, rfl⟩ := h; rfl
  ·obtain ⟨_, rfl⟩ := h; rfl
 | .fn f cap, cs, h => by obtain ⟨vs, rfl, _⟩ := h; rfl
 | .nilfn, cs, h => by cases h; rfl
 | .iface t v, cs, h => by obtain ⟨v', rfl, _⟩ := h; rfl
 | .nili, cs, h => by cases h; rfl
 | .err x, cs, h => Rt.length (t := .err) (x := x) h
 | .mp k, cs, h => by
  simp only [Rel] at h
  split at h
  ·obtain ⟨b, _, rfl⟩ := h; rfl
  ·obtain ⟨v, rfl⟩ := h; rfl
 | .nilmp, cs, h => by cases h; rfl
 | .tup fs, cs, h => by obtain ⟨vs, rfl, _⟩ := h; rfl
theorem RelL.length {E : Env} {tb : Tbl} {w : World} : ∀ {l : List S} {cs : List Value}, RelL E tb w l cs → cs.length = sizeL l
 | [], cs, h => by cases h; rfl
 | f :: r, cs, h => by
  obtain ⟨c1, c2, rfl, h1, h2⟩ := h
  rw [List.length_append, Rel.length h1, RelL.length h2]; rfl
end
theorem Rt.one {w : World} {ok : Ty → Nat → Prop} : ∀ {t : Ty} {cs : List Value} {x : t.den}, Rt w ok t cs x → ∀ v ∈ cs, v.oneCell' = true := by
 intro t
 induction t with
 | int k => intro cs x h; obtain ⟨rfl, _⟩ := h; simp [Value.oneCell']
 | nw k => intro cs x h; obtain ⟨rfl, _⟩ := h; simp [Value.oneCell']
 | bool => intro cs x h; cases h; simp [Value.oneCell']
 | str => intro cs x h; obtain ⟨bs, rfl, _⟩ := h; simp [Value.oneCell']
 | slice e _ => intro cs x h; obtain ⟨a, c, rfl, _⟩ := h; simp [Value.oneCell']
 | arr n e ih =>
  intro cs x h
  obtain ⟨hl, css, rfl, hn, hc⟩ := h
  intro v hv
  obtain ⟨c, hc', hv⟩ := List.mem_flatten.1 hv
  obtain ⟨i, hi, rfl⟩ := List.getElem_of_mem hc'
  obtain ⟨ecs, he, hr⟩ := hc i (by omega)
  rw [List.getElem?_eq_getElem hi] at he
  cases he
  exact ih hr v hv
 | unit => intro cs x h; cases h; simp
 | pair a b iha ihb =>
  intro cs x h
  obtain ⟨c1, c2, rfl, h1, h2⟩ := h
  intro v hv
  rcases List.mem_append.1 hv with hv | hv
  ·exact iha h1 v hv
  ·exact ihb h2 v hv
 | rose a ih =>
  intro cs x h
  obtain ⟨c1, c2, rfl, h1, a, c, rfl, _⟩ := rt_rose.1 h
  intro v hv
  rcases List.mem_append.1 hv with hv | hv
  ·exact ih h1 v hv
  ·rw [List.mem_singleton.1 hv]; simp [Value.oneCell']
 | err =>
  intro cs x h
  obtain ⟨v, rfl, h1⟩ := RtE.one h
  intro u hu
  rw [List.mem_singleton.1 hu]; exact h1
mutual
theorem Rel.one {E : Env} {tb : Tbl} {w : World} : ∀ {s : S} {cs : List Value}, plain s = true → Rel E tb w s cs → ∀ v ∈ cs, v.oneCell' = true
 | .junk, cs, hp, h => by simp [plain] at hp
 | .tup _, cs, hp, h => by simp [plain] at hp
 | .int .., cs, _, h => by obtain ⟨rfl, _⟩ := h; simp [Value.oneCell']
 | .bool _, cs, _, h => by cases h; simp [Value.oneCell']
 | .str _, cs, _, h => Rt.one (t := .str) h
 | .sl e xs, cs, _, h => Rt.one (t := .slice e) (x := xs) h
 | .nilsl, cs, _, h => by obtain ⟨a, rfl⟩ := h; simp [Value.oneCell']
 | .arr n e xs, cs, _, h => Rt.one (t := .arr n e) (x := xs) h
 | .st fs, cs, hp, h => by simp only [Rel] at h; simp only [plain] at hp; exact RelL.one hp h
 | .own e k, cs, _, h => by
  simp only [Rel] at h
  split at h
  ·obtain ⟨a, c, rfl, _⟩ := h; simp [Value.oneCell']
  ·obtain ⟨a, n, c, rfl⟩ := h; simp [Value.oneCell']
 | .twn e k n, cs, _, h => by
  simp only [Rel] at h
  split at h
  ·obtain ⟨b, o, _, _, _, rfl⟩ := h; simp [Value.oneCell']
  ·obtain ⟨a, n, c, rfl⟩ := h; simp [Value.oneCell']
 | .ptr k p, cs, _, h => by
  simp only [Rel] at h
  split at h
  ·obtain ⟨_, b, o, _, rfl⟩ := h; simp [Value.oneCell']
  ·obtain ⟨v, rfl⟩ := h; simp [Value.oneCell']
 | .nilp, cs, _, h => by cases h; simp [Value.oneCell']
 | .iref t x, cs, _, h => by obtain ⟨b, o, ecs, rfl, _⟩ := h; simp [Value.oneCell']
 | .gptr g p, cs, _, h => by
  simp only [Rel] at h
  split at h
  ·obtain ⟨_, rfl⟩ := h; simp [Value.oneCell']
  ·obtain ⟨_, rfl⟩ := h; simp [Value.oneCell']
 | .fn f cap, cs, _, h => by obtain ⟨vs, rfl, _⟩ := h; simp [Value.oneCell']
 | .nilfn, cs, _, h => by cases h; simp [Value.oneCell']
 | .iface t v, cs, _, h => by obtain ⟨v', rfl, _⟩ := h; simp [Value.oneCell']
 | .nili, cs, _, h => by cases h; simp [Value.oneCell']
 | .err x, cs, _, h => Rt.one (t := .err) (x := x) h
 | .mp k, cs, _, h => by
  simp only [Rel] at h
  split at h
  ·obtain ⟨b, _, rfl⟩ := h; simp [Value.oneCell']
  ·obtain ⟨v, rfl⟩ := h; simp [Value.oneCell']
 | .nilmp, cs, _, h => by cases h; simp [Value.oneCell']
theorem RelL.one {E : Env} {tb : Tbl} {w : World} : ∀ {l : List S} {cs : List Value}, plainL l = true → RelL E tb w l cs → ∀ v ∈ cs, v.oneCell' = true
 | [], cs, _, h => by cases h; simp
 | f :: r, cs, hp, h => by
  obtain ⟨c1, c2, rfl, h1, h2⟩ := h
  simp only [plainL, Bool.and_eq_true] at hp
  intro v hv
  rcases List.mem_append.1 hv with hv | hv
  ·exact Rel.one hp.1 h1 v hv
  ·exact RelL.one hp.2 h2 v hv
end
def RelV (E : Env) (tb : Tbl) (w : World) (s : S) (v : Value) : Prop :=
 if s.isAgg then ∃ a : Array Value, v = .agg a ∧ Rel E tb w s a.toList else Rel E tb w s [v]
def FreeBlk (w : World) (b : Nat) : Prop := ∃ c el lo hi, w.heap[b]? = some (.cells c el (lo, hi)) ∧ (lo = hi ∨ c.size ≤ lo)
def RtV (w : World) (ok : Ty → Nat → Prop) (vt : Ty) (v : Value) (b : vt.den) : Prop :=
 if (lift vt vt.zero).isAgg then ∃ a : Array Value, v = .agg a ∧ Rt w ok vt a.toList b else Rt w ok vt [v] b
def RelM (w : World) (ok : Ty → Nat → Prop) (kt vt : Ty) : List MapEntry → List (kt.den × vt.den) → Prop
 | [], m => m = []
 | e :: r, m => ∃ a b q, m = (a, b) :: q ∧ Rt w ok kt [e.key] a ∧ RtV w ok vt e.val b ∧ RelM w ok kt vt r q
def RelE (E : Env) (tb : Tbl) (w : World) (k : Nat) : Ent → Prop
 | .box s fz => ∃ b cs, E.κ k = some (b, 0) ∧ b < w.heap.size ∧ Lies w b 0 cs ∧ Rel E tb w s cs ∧ plain s = true ∧ (fz = false → FreeBlk w b) ∧ (∀ t, ¬ E.av t b)
 | .buf e xs fz => xs.length ≤ MAXL ∧
   match E.κ k with
   | some (b, o) => b < w.heap.size ∧ (∀ t, ¬ E.av t b) ∧ (fz = false → FreeBlk w b) ∧ ∀ i (h : i < xs.length), ∃ ecs, Lies w b (o + i * e.size) ecs ∧ Rt w (E.ok tb) e ecs xs[i]
   | none => xs = []
 | .map kt vt m fz => ∃ b es clock, E.κ k = some (b, 0) ∧ (∀ t, ¬ E.av t b) ∧ w.heap[b]? = some (.map es clock) ∧ RelM w (E.ok tb) kt vt es.toList m
structure Hist (w0 : World) (own0 : Nat → Prop) (w : World) : Prop where
 os : w.os = w0.os
 tape : w.tape = w0.tape
 output : w.output = w0.output
 size : w0.heap.size ≤ w.heap.size
 block : ∀ b, b < w0.heap.size → ¬ own0 b → w.heap[b]? = w0.heap[b]?
 cells : ∀ b o, (w0.cell? ⟨b, o, none⟩).isSome → (w.cell? ⟨b, o, none⟩).isSome
 cellsR : ∀ b o, b < w0.heap.size → (w.cell? ⟨b, o, none⟩).isSome → (w0.cell? ⟨b, o, none⟩).isSome
def Known (ep : Nat) (S : List Nat) (k : Nat) : Prop := k < ep * 262144 ∨ ∃ i ∈ S, k / 64 = ep * 4096 + i
structure RelSt (E : Env) (w0 : World) (own0 : Nat → Bool → Prop) (st : St) (S : List Nat) (tmps : Array Value) (w : World) : Prop where
 size : st.sl.length = tmps.size
 slot : ∀ i, RelV E st.tb w (st.sl.getD i .junk) (tmps.getD i undef)
 ent : ∀ k e, st.tb k = some e → RelE E st.tb w k e
 inj : ∀ k j p q e f, E.κ k = some p → E.κ j = some q → st.tb k = some e → st.tb j = some f → p.1 = q.1 → k = j
 hist : Hist w0 (own0 · false) w
 own : ∀ k p e, E.κ k = some p → st.tb k = some e → w0.heap.size ≤ p.1 ∨ own0 p.1 e.fz
 ownm : ∀ b f, own0 b f → own0 b true
 keyS : ∀ i k, k ∈ keysOf (st.sl.getD i .junk) → Known st.ep S k
 keyT : ∀ k e, st.tb k = some e → Known st.ep S k
 keyE : ∀ k e, st.tb k = some e → ∀ j ∈ e.keys, Known st.ep S j
 glob : ∀ g s, E.gl g = some s → (∀ t, E.ok st.tb t g) ∧ g < w.heap.size ∧ ∃ cs, Lies w g 0 cs ∧ Rel E st.tb w s cs ∧ keysOf s = []
 avlt : ∀ t b, E.av t b → b < w.heap.size
end Go.Ab
