/- Keys are named anew. -/
import Derived.Test.YtlhinijgdffcdaaGreatDoorOp16
namespace Go.Ab
open Go
set_option linter.unusedVariables false
set_option linter.unusedSimpArgs false
variable {ρ : Nat → Nat}
mutual
theorem ren_size : ∀ (s : S), (ren ρ s).size = s.size ∧ (ren ρ s).isAgg = s.isAgg ∧ plain (ren ρ s) = plain s ∧ ∀ q, flat q (ren ρ s) = flat q s
 | .st fs => by
  obtain ⟨a, b, c⟩ := renL_size fs
  exact ⟨by simpa [ren, S.size] using a, rfl, by simpa [ren, plain] using b, fun q => by simpa [ren, flat] using c q⟩
 | .tup fs => by
  obtain ⟨a, b, c⟩ := renL_size fs
  exact ⟨rfl, rfl, rfl, fun q => by simpa [ren, flat] using c q⟩
 | .iface t v => ⟨rfl, rfl, rfl, fun _ => rfl⟩
 | .fn f fs => ⟨rfl, rfl, rfl, fun _ => rfl⟩
 | .own e k => ⟨rfl, rfl, rfl, fun _ => rfl⟩
 | .twn e k n => ⟨rfl, rfl, rfl, fun _ => rfl⟩
 | .ptr k p => ⟨rfl, rfl, rfl, fun _ => rfl⟩
 | .mp k => ⟨rfl, rfl, rfl, fun _ => rfl⟩
 | .int .. | .bool _ | .str _ | .sl .. | .nilsl | .arr .. | .nilp | .iref .. | .gptr .. | .nilfn | .nili | .nilmp | .err _ | .junk => ⟨rfl, rfl, rfl, fun _ => rfl⟩
theorem renL_size : ∀ (l : List S), sizeL (renL ρ l) = sizeL l ∧ plainL (renL ρ l) = plainL l ∧ ∀ q, flatL q (renL ρ l) = flatL q l
 | [] => ⟨rfl, rfl, fun _ => rfl⟩
 | f :: r => by
  obtain ⟨a, b, c, d⟩ := ren_size f
  obtain ⟨a', b', c'⟩ := renL_size r
  exact ⟨by simp only [renL, sizeL, a, a'], by simp only [renL, plainL, c, b'], fun q => by simp only [renL, flatL, d q, c' q]⟩
end
mutual
theorem ren_keys : ∀ (s : S), keysOf (ren ρ s) = (keysOf s).map ρ
 | .st fs => by simp only [ren, keysOf]; exact renL_keys fs
 | .tup fs => by simp only [ren, keysOf]; exact renL_keys fs
 | .fn f fs => by simp only [ren, keysOf]; exact renL_keys fs
 | .iface t v => by simp only [ren, keysOf]; exact ren_keys v
 | .own e k => rfl
 | .twn e k n => rfl
 | .ptr k p => rfl
 | .mp k => rfl
 | .int .. | .bool _ | .str _ | .sl .. | .nilsl | .arr .. | .nilp | .iref .. | .gptr .. | .nilfn | .nili | .nilmp | .err _ | .junk => by simp [ren, keysOf]
theorem renL_keys : ∀ (l : List S), keysOfL (renL ρ l) = (keysOfL l).map ρ
 | [] => rfl
 | f :: r => by simp only [renL, keysOfL, ren_keys f, renL_keys r, List.map_append]
end
mutual
theorem ren_shape : ∀ {s : S}, plain s = true → sameShape s (ren ρ s) = true
 | .st fs, h => by simp only [plain] at h; simp only [ren, sameShape]; exact renL_shape h
 | .tup fs, h => by simp [plain] at h
 | .junk, h => by simp [plain] at h
 | .arr .., _ => by simp [ren, sameShape]
 | .iface t v, _ => by simp [ren, sameShape]
 | .fn f fs, _ => by simp [ren, sameShape]
 | .own e k, _ => by simp [ren, sameShape]
 | .twn e k n, _ => by simp [ren, sameShape]
 | .ptr k p, _ => by simp [ren, sameShape]
 | .mp k, _ => by simp [ren, sameShape]
 | .int .., _ | .bool _, _ | .str _, _ | .sl .., _ | .nilsl, _ | .nilp, _ | .iref .., _ | .gptr .., _ | .nilfn, _ | .nili, _ | .nilmp, _ | .err _, _ => by simp [ren, sameShape]
theorem renL_shape : ∀ {l : List S}, plainL l = true → sameShapeL l (renL ρ l) = true
 | [], _ => rfl
 | f :: r, h => by simp only [plainL, Bool.and_eq_true] at h; simp only [renL, sameShapeL, ren_shape h.1, renL_shape h.2, Bool.and_self]
end
mutual
theorem sameShape_trans : ∀ {s t u : S}, sameShape s t = true → sameShape t u = true → sameShape s u = true
 | .st fs, t, u, h, k => by
  cases t <;> simp [sameShape] at h
  cases u <;> simp [sameShape] at k
  simp only [sameShape]; exact sameShapeL_trans h k
 | .arr n e xs, t, u, h, k => by
  cases t <;> simp [sameShape] at h
  cases u <;> simp [sameShape] at k
  simp [sameShape, h, k]
 | .junk, t, u, h, k => by simp [sameShape] at h
 | .tup _, t, u, h, k => by simp [sameShape] at h
 | .int .., t, u, h, k | .bool _, t, u, h, k | .str _, t, u, h, k | .sl .., t, u, h, k | .nilsl, t, u, h, k | .own .., t, u, h, k | .twn .., t, u, h, k | .ptr .., t, u, h, k | .nilp, t, u, h, k | .iref .., t, u, h, k | .gptr .., t, u, h, k
 | .fn .., t, u, h, k | .nilfn, t, u, h, k | .iface .., t, u, h, k | .nili, t, u, h, k | .mp _, t, u, h, k | .nilmp, t, u, h, k | .err _, t, u, h, k => by
  cases t <;> simp [sameShape] at h <;> cases u <;> simp [sameShape] at k <;> simp [sameShape]
theorem sameShapeL_trans : ∀ {l m q : List S}, sameShapeL l m = true → sameShapeL m q = true → sameShapeL l q = true
 | [], [], [], _, _ => rfl
 | [], [], _ :: _, _, k => by simp [sameShapeL] at k
 | [], _ :: _, _, h, _ => by simp [sameShapeL] at h
 | _ :: _, [], _, h, _ => by simp [sameShapeL] at h
 | _ :: _, _ :: _, [], _, k => by simp [sameShapeL] at k
 | f :: r, g :: q, x :: y, h, k => by
  simp only [sameShapeL, Bool.and_eq_true] at h k ⊢
  exact ⟨sameShape_trans h.1 k.1, sameShapeL_trans h.2 k.2⟩
end
theorem SameForm.trans : ∀ {a b c : Ent}, SameForm a b → SameForm b c → SameForm a c := by
 intro a b c h k
 cases a <;> cases b <;> simp only [SameForm] at h <;> cases c <;> simp only [SameForm] at k ⊢
 ·rcases h with rfl | h <;> rcases k with rfl | k
  ·exact .inl rfl
  ·exact .inr k
  ·exact .inr h
  ·exact .inr (sameShape_trans h k)
 ·obtain ⟨rfl, h⟩ := h; obtain ⟨rfl, k⟩ := k; exact ⟨rfl, h.trans k⟩
theorem SameForm.ren {E : Env} {tb : Tbl} {w : World} {k : Nat} {e : Ent} (h : RelE E tb w k e) : SameForm e (Ent.ren ρ e) := by
 cases e with
 | box s fz => obtain ⟨b, cs, _, _, _, _, hp, _⟩ := h; exact .inr (ren_shape hp)
 | buf e xs fz => exact ⟨rfl, rfl⟩
 | map kt vt m fz => trivial
theorem ren_fz (e : Ent) : (Ent.ren ρ e).fz = e.fz := by cases e <;> rfl
theorem ren_ekeys (e : Ent) : (Ent.ren ρ e).keys = e.keys.map ρ := by
 cases e with
 | box s fz => simp [Ent.ren, Ent.keys, ren_keys]
 | buf e xs fz => rfl
 | map kt vt m fz => rfl
theorem Rt.flat {w : World} {ok ok' : Ty → Nat → Prop} : ∀ {t : Ty} {cs : List Value} {x : t.den}, flatTy t = true → Rt w ok t cs x → Rt w ok' t cs x := by
 intro t
 induction t with
 | nw k => intro cs x _ h; exact h
 | int k => intro cs x _ h; exact h
 | bool => intro cs x _ h; exact h
 | str => intro cs x _ h; exact h
 | slice e _ => intro cs x hf; simp [flatTy] at hf
 | rose a _ => intro cs x hf; simp [flatTy] at hf
 | err => intro cs x hf; simp [flatTy] at hf
 | arr n e ih =>
  intro cs x hf h
  simp only [flatTy] at hf
  obtain ⟨hl, css, rfl, hn, hel⟩ := h
  refine ⟨hl, css, rfl, hn, fun i hi => ?_⟩
  obtain ⟨ecs, he, hr⟩ := hel i hi
  exact ⟨ecs, he, ih hf hr⟩
 | unit => intro cs x _ h; exact h
 | pair a b iha ihb =>
  intro cs x hf h
  simp only [flatTy, Bool.and_eq_true] at hf
  obtain ⟨c1, c2, h1, h2, h3⟩ := h
  exact ⟨c1, c2, h1, iha hf.1 h2, ihb hf.2 h3⟩
theorem rt_hd {w : World} {ok : Ty → Nat → Prop} : ∀ {t : Ty} {cs : List Value} {x : t.den}, hdTy t = true → Rt w ok t cs x → ∃ v, cs[0]? = some v ∧ ∀ n, v ≠ .int .u8 n := by
 intro t
 induction t with
 | nw k => intro cs x hf; simp [hdTy] at hf
 | int k =>
  intro cs x hf h
  obtain ⟨rfl, _⟩ := h
  refine ⟨_, rfl, fun n hn => ?_⟩
  simp only [hdTy, Bool.not_eq_true', beq_eq_false_iff_ne] at hf
  injection hn with h1 h2
  exact hf h1
 | bool => intro cs x _ h; cases h; exact ⟨_, rfl, fun n hn => by cases hn⟩
 | str => intro cs x _ h; obtain ⟨bs, rfl, _⟩ := h; exact ⟨_, rfl, fun n hn => by cases hn⟩
 | slice e _ => intro cs x _ h; obtain ⟨a, c, rfl, _⟩ := h; exact ⟨_, rfl, fun n hn => by cases hn⟩
 | unit => intro cs x hf; simp [hdTy] at hf
 | rose a ih =>
  intro cs x hf h
  simp only [hdTy] at hf
  obtain ⟨c1, c2, rfl, h1, _⟩ := rt_rose.1 h
  obtain ⟨v, h4, h5⟩ := ih hf h1
  refine ⟨v, ?_, h5⟩
  cases c1 with
  | nil => cases h4
  | cons y r => exact h4
 | err =>
  intro cs x _ h
  cases x with
  | nil => cases h; exact ⟨_, rfl, fun n hn => by cases hn⟩
  | leaf t xs => obtain ⟨b, rfl, _⟩ := h; exact ⟨_, rfl, fun n hn => by cases hn⟩
  | wrap t p y q => obtain ⟨b, c, rfl, _⟩ := h; exact ⟨_, rfl, fun n hn => by cases hn⟩
  | raw t v => cases h; exact ⟨_, rfl, fun n hn => by cases hn⟩
 | pair a b iha ihb =>
  intro cs x hf h
  simp only [hdTy] at hf
  obtain ⟨c1, c2, rfl, h2, h3⟩ := h
  obtain ⟨v, h4, h5⟩ := iha hf h2
  refine ⟨v, ?_, h5⟩
  cases c1 with
  | nil => cases h4
  | cons y r => exact h4
 | arr n e ih =>
  intro cs x hf h
  simp only [hdTy, Bool.and_eq_true, decide_eq_true_eq] at hf
  obtain ⟨hl, css, rfl, hn, hel⟩ := h
  obtain ⟨ecs, he, hr⟩ := hel 0 (by omega)
  obtain ⟨v, h4, h5⟩ := ih hf.2 hr
  refine ⟨v, ?_, h5⟩
  cases css with
  | nil => cases he
  | cons y r =>
   have he : some y = some ecs := he
   obtain rfl := Option.some.inj he
   cases y with
   | nil => cases h4
   | cons z r' => exact h4
theorem Rt.nb {w : World} {ok ok' : Ty → Nat → Prop} (hb : ∀ t b, ok t b → b < w.heap.size → ok' t b ∨ (ByteBlk w b ∧ t.isNw = false)) : ∀ {t : Ty} {cs : List Value} {x : t.den}, nbTy t = true → Rt w ok t cs x → Rt w ok' t cs x := by
 intro t
 induction t with
 | nw k => intro cs x _ h; exact h
 | int k => intro cs x _ h; exact h
 | bool => intro cs x _ h; exact h
 | str => intro cs x _ h; exact h
 | slice e ih =>
  intro cs x hf h
  simp only [nbTy, Bool.and_eq_true] at hf
  obtain ⟨a, c, h1, h2, h3, h4⟩ := h
  refine ⟨a, c, h1, h2, h3, ?_⟩
  rcases h4 with h4 | ⟨b, o, ha, hok, hlt, hel⟩
  ·exact .inl h4
  ·by_cases hx : x = []
   ·exact .inl hx
   ·have hp : 0 < x.length := by cases x with | nil => exact absurd rfl hx | cons _ _ => simp
    have hok' : ok' e b := by
     rcases hb e b hok hlt with h | ⟨h, hnw⟩
     ·exact h
     ·exfalso
      obtain ⟨ecs, hl, hr⟩ := hel 0 hp
      obtain ⟨v, q1, q2⟩ := rt_hd (by have := hf.1; rw [hnw] at this; simpa using this) hr
      obtain ⟨n, q3⟩ := h _ _ (hl 0 v q1)
      exact q2 n q3
    refine .inr ⟨b, o, ha, hok', hlt, fun i hi => ?_⟩
    obtain ⟨ecs, hl, hr⟩ := hel i hi
    exact ⟨ecs, hl, ih hf.2 hr⟩
 | rose a ih =>
  intro cs x hf h
  simp only [nbTy, Bool.and_eq_true] at hf
  replace h : RtR w (ok (.rose a)) (a.size + 1) (Rt w ok a) x cs := h
  show RtR w (ok' (.rose a)) (a.size + 1) (Rt w ok' a) x cs
  induction h with
  | leaf h1 => exact .leaf (ih hf.2 h1)
  | @node x ks c1 b o cap e h1 hc hm hk hlt hl hr ihr =>
   by_cases hx : ks = []
   ·subst hx; exact .leaf (ih hf.2 h1)
   ·have hp : 0 < ks.length := by cases ks with | nil => exact absurd rfl hx | cons _ _ => simp
    refine .node e (ih hf.2 h1) hc hm ?_ hlt hl ihr
    rcases hb _ b hk hlt with h' | ⟨h', _⟩
    ·exact h'
    ·exfalso
     obtain ⟨d1, d2, q0, q1, _⟩ := rt_rose (w := w) (ok := ok) (a := a) |>.1 (hr 0 hp)
     obtain ⟨v, r1, r2⟩ := rt_hd hf.1 q1
     have r3 : (e 0)[0]? = some v := by
      rw [q0]
      cases d1 with
      | nil => cases r1
      | cons y r => exact r1
     obtain ⟨n, q3⟩ := h' _ _ (hl 0 hp 0 v r3)
     exact r2 n q3
 | err => intro cs x hf; simp [nbTy] at hf
 | arr n e ih =>
  intro cs x hf h
  simp only [nbTy] at hf
  obtain ⟨hl, css, rfl, hn, hel⟩ := h
  refine ⟨hl, css, rfl, hn, fun i hi => ?_⟩
  obtain ⟨ecs, he, hr⟩ := hel i hi
  exact ⟨ecs, he, ih hf hr⟩
 | unit => intro cs x _ h; exact h
 | pair a b iha ihb =>
  intro cs x hf h
  simp only [nbTy, Bool.and_eq_true] at hf
  obtain ⟨c1, c2, h1, h2, h3⟩ := h
  exact ⟨c1, c2, h1, iha hf.1 h2, ihb hf.2 h3⟩
structure Xfer (ρ : Nat → Nat) (E1 : Env) (tb1 : Tbl) (E2 : Env) (tb2 : Tbl) (w : World) (F : Prop) (qb : Bool := false) : Prop where
 ok : (F ∧ (qb = true → ∀ t b, E1.ok tb1 t b → b < w.heap.size → E2.ok tb2 t b ∨ (ByteBlk w b ∧ t.isNw = false))) ∨ ∀ t b, E1.ok tb1 t b → b < w.heap.size → E2.ok tb2 t b
 key : ∀ j, tb2 (ρ j) = none ∨ ∃ e1 e2, tb1 j = some e1 ∧ tb2 (ρ j) = some e2 ∧ SameForm e1 e2 ∧ E2.κ (ρ j) = E1.κ j
 gl : E2.gl = E1.gl
section
variable {E1 E2 : Env} {tb1 tb2 : Tbl} {w : World} {F : Prop} {qb : Bool}
theorem Xfer.rt (X : Xfer ρ E1 tb1 E2 tb2 w F qb) {t : Ty} {cs : List Value} {x : t.den} (hf : F → qTy qb t = true) (h : Rt w (E1.ok tb1) t cs x) : Rt w (E2.ok tb2) t cs x := by
 rcases X.ok with hF | hok
 ·have h1 := hf hF.1
  cases qb with
  | false => exact Rt.flat h1 h
  | true => exact Rt.nb (hF.2 rfl) h1 h
 ·exact Rt.mono (fun t b hb hlt => ⟨hok t b hb hlt, hlt⟩) (fun _ _ _ _ _ h => h) h
mutual
theorem Xfer.rel (X : Xfer ρ E1 tb1 E2 tb2 w F qb) : ∀ {s : S} {cs : List Value}, (F → flat qb s = true) → Rel E1 tb1 w s cs → Rel E2 tb2 w (ren ρ s) cs
 | .junk, cs, hf, h => h
 | .int .., cs, hf, h => h
 | .bool _, cs, hf, h => h
 | .str _, cs, hf, h => Rt.flat (t := .str) rfl h
 | .sl e xs, cs, hf, h => X.rt (t := .slice e) (fun hF => by have := hf hF; simpa [flat] using this) h
 | .nilsl, cs, hf, h => h
 | .err x, cs, hf, h => X.rt (t := .err) (x := x) (fun hF => by have := hf hF; simp [flat] at this) h
 | .arr n e xs, cs, hf, h => X.rt (t := .arr n e) (fun hF => by have := hf hF; cases qb <;> simpa [flat, qTy, flatTy, nbTy] using this) h
 | .st fs, cs, hf, h => by simp only [ren, Rel] at h ⊢; exact X.relL (fun hF => by have := hf hF; simpa [flat] using this) h
 | .own e k, cs, hf, h => by
  have h1 : ∃ a n c, cs = [.slice a n c] := by
   simp only [Rel] at h
   split at h
   ·obtain ⟨a, c, rfl, _⟩ := h; exact ⟨a, _, c, rfl⟩
   ·exact h
  simp only [ren, Rel] at h ⊢
  rcases X.key k with hk | ⟨e1, e2, hk1, hk2, hsf, hκ⟩
  ·rw [hk]; exact h1
  ·rw [hk1] at h; rw [hk2]
   cases e2 with
   | box => exact h1
   | map => exact h1
   | buf u ys f =>
    cases e1 with
    | box => simp [SameForm] at hsf
    | map => simp [SameForm] at hsf
    | buf u0 xs f0 =>
     obtain ⟨rfl, hl⟩ := hsf
     obtain ⟨a, cap, h4, h2, h3⟩ := h
     refine ⟨a, cap, by rw [← hl]; exact h4, by rw [← hl]; exact h2, ?_⟩
     rw [hκ]; exact h3
 | .twn e k n, cs, hf, h => by
  have h1 : ∃ a n c, cs = [.slice a n c] := by
   simp only [Rel] at h
   split at h
   ·obtain ⟨b, o, _, _, _, rfl⟩ := h; exact ⟨_, _, _, rfl⟩
   ·exact h
  simp only [ren, Rel] at h ⊢
  rcases X.key k with hk | ⟨e1, e2, hk1, hk2, hsf, hκ⟩
  ·rw [hk]; exact h1
  ·rw [hk1] at h; rw [hk2]
   cases e2 with
   | box => exact h1
   | map => exact h1
   | buf u ys f =>
    cases e1 with
    | box => simp [SameForm] at hsf
    | map => simp [SameForm] at hsf
    | buf u0 xs f0 =>
     obtain ⟨rfl, hl⟩ := hsf
     obtain ⟨b, o, h2, h3, h4, h5⟩ := h
     exact ⟨b, o, by rw [hκ]; exact h2, h3, by rw [← hl]; exact h4, by rw [← hl]; exact h5⟩
 | .ptr k p, cs, hf, h => by
  have h0 : ∃ a, cs = [.pointer (some a)] := by
   simp only [Rel] at h
   split at h
   ·obtain ⟨_, b, o, _, rfl⟩ := h; exact ⟨_, rfl⟩
   ·exact h
  simp only [ren, Rel] at h ⊢
  rcases X.key k with hk | ⟨e1, e2, hk1, hk2, hsf, hκ⟩
  ·rw [hk]; exact h0
  ·rw [hk1] at h; rw [hk2]
   obtain ⟨hp, b, o, h1, h2⟩ := h
   obtain ⟨q1, q2⟩ := hsf.path hp
   exact ⟨q1, b, o, by rw [hκ]; exact h1, by rw [← q2]; exact h2⟩
 | .nilp, cs, hf, h => h
 | .iref t x, cs, hf, h => by
  simp only [ren, Rel] at h ⊢
  obtain ⟨b, o, ecs, h1, ⟨t0, h2⟩, h3, h4, h5⟩ := h
  rcases X.ok with hF | hok
  ·have := hf hF.1; simp [flat] at this
  ·exact ⟨b, o, ecs, h1, ⟨t0, hok t0 b h2 h3⟩, h3, h4, Rt.mono (fun t b hb hlt => ⟨hok t b hb hlt, hlt⟩) (fun _ _ _ _ _ h => h) h5⟩
 | .gptr g p, cs, hf, h => by simp only [ren, Rel] at h ⊢; rw [X.gl]; exact h
 | .fn f cap, cs, hf, h => by
  simp only [ren, Rel] at h ⊢
  obtain ⟨vs, h1, h2⟩ := h
  exact ⟨vs, h1, X.relVL (fun hF => by have := hf hF; simp [flat] at this) h2⟩
 | .nilfn, cs, hf, h => h
 | .iface t v, cs, hf, h => by
  simp only [ren, Rel] at h ⊢
  obtain ⟨v', h1, h2⟩ := h
  refine ⟨v', h1, ?_⟩
  rw [(ren_size v).2.1]
  have hf' : F → flat qb v = true := fun hF => by have := hf hF; simp [flat] at this
  split
  ·rename_i ha; rw [if_pos ha] at h2; obtain ⟨a, h3, h4⟩ := h2; exact ⟨a, h3, X.rel hf' h4⟩
  ·rename_i ha; rw [if_neg ha] at h2; exact X.rel hf' h2
 | .nili, cs, hf, h => h
 | .mp k, cs, hf, h => by
  have h0 : ∃ b, cs = [.map (some b)] := by
   simp only [Rel] at h
   split at h
   ·obtain ⟨b, _, rfl⟩ := h; exact ⟨_, rfl⟩
   ·exact h
  simp only [ren, Rel] at h ⊢
  rcases X.key k with hk | ⟨e1, e2, hk1, hk2, hsf, hκ⟩
  ·rw [hk]; exact h0
  ·rw [hk1] at h; rw [hk2]
   obtain ⟨b, h1, h2⟩ := h
   exact ⟨b, by rw [hκ]; exact h1, h2⟩
 | .nilmp, cs, hf, h => h
 | .tup fs, cs, hf, h => by
  simp only [ren, Rel] at h ⊢
  obtain ⟨vs, h1, h2⟩ := h
  exact ⟨vs, h1, X.relVL (fun hF => by have := hf hF; simpa [flat] using this) h2⟩
theorem Xfer.relL (X : Xfer ρ E1 tb1 E2 tb2 w F qb) : ∀ {l : List S} {cs : List Value}, (F → flatL qb l = true) → RelL E1 tb1 w l cs → RelL E2 tb2 w (renL ρ l) cs
 | [], cs, hf, h => h
 | f :: r, cs, hf, h => by
  simp only [renL, RelL] at h ⊢
  obtain ⟨c1, c2, h1, h2, h3⟩ := h
  exact ⟨c1, c2, h1, X.rel (fun hF => by have := hf hF; simp only [flatL, Bool.and_eq_true] at this; exact this.1) h2, X.relL (fun hF => by have := hf hF; simp only [flatL, Bool.and_eq_true] at this; exact this.2) h3⟩
theorem Xfer.relVL (X : Xfer ρ E1 tb1 E2 tb2 w F qb) : ∀ {l : List S} {vs : List Value}, (F → flatL qb l = true) → RelVL E1 tb1 w l vs → RelVL E2 tb2 w (renL ρ l) vs
 | [], vs, hf, h => h
 | f :: r, vs, hf, h => by
  simp only [renL, RelVL] at h ⊢
  obtain ⟨v, q, h1, h2, h3⟩ := h
  have hf1 : F → Ab.flat qb f = true := fun hF => by have := hf hF; simp only [flatL, Bool.and_eq_true] at this; exact this.1
  refine ⟨v, q, h1, ?_, X.relVL (fun hF => by have := hf hF; simp only [flatL, Bool.and_eq_true] at this; exact this.2) h3⟩
  rw [(ren_size f).2.1]
  split
  ·rename_i ha; rw [if_pos ha] at h2; obtain ⟨a, h3, h4⟩ := h2; exact ⟨a, h3, X.rel hf1 h4⟩
  ·rename_i ha; rw [if_neg ha] at h2; exact X.rel hf1 h2
end
theorem Xfer.relV (X : Xfer ρ E1 tb1 E2 tb2 w F qb) {s : S} {v : Value} (hf : F → flat qb s = true) (h : RelV E1 tb1 w s v) : RelV E2 tb2 w (ren ρ s) v := by
 unfold RelV at h ⊢
 rw [(ren_size s).2.1]
 split
 ·rename_i ha; rw [if_pos ha] at h; obtain ⟨a, h3, h4⟩ := h; exact ⟨a, h3, X.rel hf h4⟩
 ·rename_i ha; rw [if_neg ha] at h; exact X.rel hf h
theorem Xfer.rtV (X : Xfer ρ E1 tb1 E2 tb2 w F qb) {vt : Ty} {v : Value} {b : vt.den} (hf : F → qTy qb vt = true) (h : RtV w (E1.ok tb1) vt v b) : RtV w (E2.ok tb2) vt v b := by
 unfold RtV at h ⊢
 split
 ·rename_i ha; rw [if_pos ha] at h; obtain ⟨a, h1, h2⟩ := h; exact ⟨a, h1, X.rt hf h2⟩
 ·rename_i ha; rw [if_neg ha] at h; exact X.rt hf h
theorem Xfer.relM (X : Xfer ρ E1 tb1 E2 tb2 w F qb) {kt vt : Ty} (hf : F → qTy qb kt = true ∧ qTy qb vt = true) : ∀ {es : List MapEntry} {m : List (kt.den × vt.den)}, RelM w (E1.ok tb1) kt vt es m → RelM w (E2.ok tb2) kt vt es m
 | [], m, h => h
 | e :: r, m, h => by
  obtain ⟨a, b, q, h1, h2, h3, h5⟩ := h
  exact ⟨a, b, q, h1, X.rt (fun hF => (hf hF).1) h2, X.rtV (fun hF => (hf hF).2) h3, X.relM hf h5⟩
theorem Xfer.relE (X : Xfer ρ E1 tb1 E2 tb2 w F qb) {k k2 : Nat} {e : Ent} (hk : E2.κ k2 = E1.κ k) (hav : ∀ p, E1.κ k = some p → ∀ t, ¬ E2.av t p.1) (hf : F → flatE qb e = true) (h : RelE E1 tb1 w k e) : RelE E2 tb2 w k2 (Ent.ren ρ e) := by
 cases e with
 | box s fz =>
  obtain ⟨b, cs, h1, h2, h3, h4, h5, h6, h7⟩ := h
  exact ⟨b, cs, hk.trans h1, h2, h3, X.rel hf h4, by rw [(ren_size s).2.2.1]; exact h5, h6, hav _ h1⟩
 | buf e xs fz =>
  obtain ⟨h0, h⟩ := h
  refine ⟨h0, ?_⟩
  rw [hk]
  cases hq : E1.κ k with
  | none => rw [hq] at h; exact h
  | some p =>
   obtain ⟨b, o⟩ := p
   rw [hq] at h
   obtain ⟨h1, h2, h3, h4⟩ := h
   refine ⟨h1, hav _ hq, h3, fun i hi => ?_⟩
   obtain ⟨ecs, q1, q2⟩ := h4 i hi
   exact ⟨ecs, q1, X.rt hf q2⟩
 | map kt vt m fz =>
  obtain ⟨b, es, c, h1, h2, h3, h4⟩ := h
  exact ⟨b, es, c, hk.trans h1, hav _ h1, h3, X.relM (fun hF => by have := hf hF; simpa [flatE] using this) h4⟩
end
theorem idxK_spec (k : Nat) : ∀ (l : List Nat) (n : Nat), (k ∉ l ∧ idxK k l n = none) ∨ ∃ i, l[i]? = some k ∧ idxK k l n = some (n + i) ∧ i < l.length
 | [], n => .inl ⟨by simp, rfl⟩
 | j :: r, n => by
  simp only [idxK]
  by_cases h : k = j
  ·subst h; exact .inr ⟨0, rfl, by simp, by simp⟩
  ·rw [if_neg h]
   rcases idxK_spec k r (n + 1) with ⟨h1, h2⟩ | ⟨i, h1, h2, h3⟩
   ·exact .inl ⟨by simp [h, h1], h2⟩
   ·exact .inr ⟨i + 1, by simpa using h1, by rw [h2]; congr 1; omega, by simp; omega⟩
theorem sendK_spec (ks : List Nat) (k : Nat) : (k ∉ ks ∧ sendK ks k = 63) ∨ ∃ i, ks[i]? = some k ∧ sendK ks k = i ∧ i < ks.length := by
 unfold sendK
 rcases idxK_spec k ks 0 with ⟨h1, h2⟩ | ⟨i, h1, h2, h3⟩
 ·exact .inl ⟨h1, by rw [h2]; rfl⟩
 ·exact .inr ⟨i, h1, by rw [h2]; simp, h3⟩
theorem sendK_lt (ks : List Nat) (k : Nat) (h : ks.length < 63) : sendK ks k ≤ 63 := by
 rcases sendK_spec ks k with ⟨_, h1⟩ | ⟨i, _, h1, h2⟩ <;> omega
theorem entsOf_spec {tb : Tbl} {ρ : Nat → Nat} : ∀ {ks : List Nat} {es : List Ent}, entsOf tb ρ ks = some es →
  es.length = ks.length ∧ ∀ (i k : Nat), ks[i]? = some k → ∃ e, tb k = some e ∧ es[i]? = some (Ent.ren ρ e)
 | [], es, h => by simp [entsOf] at h; subst h; exact ⟨rfl, by simp⟩
 | j :: r, es, h => by
  simp only [entsOf] at h
  split at h <;> try contradiction
  rename_i e es' h1 h2
  simp only [Option.some.injEq] at h; subst h
  obtain ⟨q1, q2⟩ := entsOf_spec h2
  refine ⟨by simp [q1], fun i k hi => ?_⟩
  cases i with
  | zero => simp at hi; subst hi; exact ⟨e, h1, rfl⟩
  | succ i => simpa using q2 i k (by simpa using hi)
theorem entsOf_back {tb : Tbl} {ρ : Nat → Nat} {ks : List Nat} {es : List Ent} (h : entsOf tb ρ ks = some es) {i : Nat} {e' : Ent} (he : es[i]? = some e') : ∃ k e, ks[i]? = some k ∧ tb k = some e ∧ e' = Ent.ren ρ e := by
 obtain ⟨h1, h2⟩ := entsOf_spec h
 have hi : i < ks.length := by
  by_cases hi : i < ks.length
  ·exact hi
  ·rw [List.getElem?_eq_none (by omega)] at he; cases he
 obtain ⟨e, q1, q2⟩ := h2 i ks[i] (List.getElem?_eq_getElem hi)
 rw [q2] at he; cases he
 exact ⟨_, e, List.getElem?_eq_getElem hi, q1, rfl⟩
theorem addAll_spec : ∀ (l acc : List Nat), ∃ q, addAll acc l = acc ++ q ∧ (acc.Nodup → (addAll acc l).Nodup) ∧ (∀ k, k ∈ addAll acc l ↔ k ∈ acc ∨ k ∈ l)
 | [], acc => ⟨[], by simp [addAll], fun h => h, by simp [addAll]⟩
 | k :: r, acc => by
  simp only [addAll]
  by_cases hk : acc.contains k = true
  ·rw [if_pos hk]
   obtain ⟨q, h1, h2, h3⟩ := addAll_spec r acc
   refine ⟨q, h1, h2, fun j => ?_⟩
   rw [h3]; simp only [List.mem_cons]
   constructor
   ·rintro (h | h)
    ·exact .inl h
    ·exact .inr (.inr h)
   ·rintro (h | rfl | h)
    ·exact .inl h
    ·exact .inl (by simpa using hk)
    ·exact .inr h
  ·rw [if_neg hk]
   obtain ⟨q, h1, h2, h3⟩ := addAll_spec r (acc ++ [k])
   refine ⟨k :: q, by simp [h1], fun h => h2 ?_, fun j => ?_⟩
   ·rw [List.nodup_append]
    refine ⟨h, by simp, ?_⟩
    intro x hx y hy
    simp at hy; subst hy
    rintro rfl
    exact hk (by simpa using hx)
   ·rw [h3]; simp only [List.mem_append, List.mem_cons, List.not_mem_nil, or_false]
    constructor
    ·rintro ((h | h) | h)
     ·exact .inl h
     ·exact .inr (.inl h)
     ·exact .inr (.inr h)
    ·rintro (h | h | h)
     ·exact .inl (.inl h)
     ·exact .inl (.inr h)
     ·exact .inr h
theorem reach_spec (tb : Tbl) : ∀ (n : Nat) (ks : List Nat), ∃ q, reach tb n ks = ks ++ q ∧ (ks.Nodup → (reach tb n ks).Nodup)
 | 0, ks => ⟨[], by simp [reach], fun h => h⟩
 | n + 1, ks => by
  simp only [reach]
  obtain ⟨q1, h1, h2, _⟩ := addAll_spec (entKeys tb ks) ks
  obtain ⟨q2, h3, h4⟩ := reach_spec tb n (addAll ks (entKeys tb ks))
  exact ⟨q1 ++ q2, by rw [h3, h1]; simp, fun h => h4 (h2 h)⟩
end Go.Ab
