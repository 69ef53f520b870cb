/- Each operation that the interpreter runs is sound. -/
import Derived.Test.YtlhinijgdffcdaaGreatDoorOp15
import Derived.Test.YtlhinijgdffcdaaGreatDoorOp17
namespace Go.Ab
open Go
set_option linter.unusedVariables false
set_option linter.unusedSimpArgs false
section
variable {E : Env} {w0 : World} {own0 : Nat → Bool → Prop} {st : St} {D : List Nat} {a : Act} {w : World} {C : Ctx} {o : Oper} {i : Nat} {r : OpR}
theorem opS_builtin {b : Builtin} {args : Array Operand} {tys : Array TypeId} (hR : RelSt E w0 own0 st D a.tmps w) (hi : i ∉ D) (ho : o.op = .call { callee := .builtin b, args := args, argTypes := tys })
  (h : opS C o st.ep i (evalS st.sl) st.tb = some r) (hg : ∀ g ∈ r.g, g = true) : OpGood C.P E w0 own0 st D i o r.v r.ef a w := by
 have hd := opS_lt h
 have h' := h
 unfold opS at h'
 rw [ho] at h'
 simp only [hd, decide_true, Bool.not_true, Bool.false_eq_true, if_false] at h'
 cases b
 case len => exact opS_len hR ho h hg
 case cap => exact opS_cap hR ho h
 case max => exact opS_maxmin (mxb := true) hR ho h
 case min => exact opS_maxmin (mxb := false) hR ho h
 case append =>
  obtain ⟨l⟩ := args
  have hone : ∃ x y, l = [x, y] := by
   cases l with
   | nil => simp [builtinS] at h'
   | cons x q =>
    cases q with
    | nil => simp [builtinS] at h'
    | cons y q =>
     cases q with
     | nil => exact ⟨x, y, rfl⟩
     | cons z q => simp [builtinS] at h'
  obtain ⟨x, y, rfl⟩ := hone
  simp only [List.map_cons, List.map_nil] at h'
  unfold builtinS at h'
  simp only at h'
  split at h' <;> try contradiction
  split at h' <;> try contradiction
  split at h' <;> try contradiction
  split at h' <;> try contradiction
  ·rename_i hs; exact opS_append_nil hR hi ho hs h hg
  ·rename_i u k hs; exact opS_append_own hR hi ho hs h hg
 case copy =>
  obtain ⟨l⟩ := args
  have hone : ∃ x y, l = [x, y] := by
   cases l with
   | nil => simp [builtinS] at h'
   | cons x q =>
    cases q with
    | nil => simp [builtinS] at h'
    | cons y q =>
     cases q with
     | nil => exact ⟨x, y, rfl⟩
     | cons z q => simp [builtinS] at h'
  obtain ⟨x, y, rfl⟩ := hone
  exact opS_copy hR hi ho h hg
 all_goals (simp [builtinS] at h')
theorem opS_good (hgl : E.gl = C.glob) (hR : RelSt E w0 own0 st D a.tmps w) (hi : i ∉ D)
  (h : opS C o st.ep i (evalS st.sl) st.tb = some r) (hg : ∀ g ∈ r.g, g = true) : OpGood C.P E w0 own0 st D i o r.v r.ef a w := by
 have hd := opS_lt h
 have hn : ∀ op, o.op = op → (∀ ep d ev tb, opS C { o with op := op } ep d ev tb = opS C o ep d ev tb) := by rintro op rfl; intro ep d ev tb; rfl
 cases hop : o.op with
 | move x => exact opS_move hR hi (.inl hop) (fun h => by rw [hop] at h; cases h) h
 | assign x => exact opS_assign hR hi hop h
 | pick c x y => exact opS_pick hR hop h
 | alloc t => exact opS_alloc hR hi hop h
 | box t x => exact opS_box hR hi hop h
 | build t ps =>
  have h' := h
  unfold opS at h'
  rw [hop] at h'
  simp only [hd, decide_true, Bool.not_true, Bool.false_eq_true, if_false] at h'
  split at h' <;> try contradiction
  ·rename_i hz _; exact opS_build_st hR hi hop hz h
  ·rename_i hz _; exact opS_build_arr hR hi hop hz h
 | buildSlice t n ps => exact opS_buildSlice hR hi hop h
 | load t x => exact opS_load hgl hR hop h hg
 | store t x y => exact opS_store hR hi hop h
 | nilCheck x => exact opS_nilCheck hR hop h
 | binOp op xT x y yT => exact opS_binOp hR hop h hg
 | unOp op t x => exact opS_unOp hR hop h
 | convert src dst x =>
  by_cases hc : ∃ e s, C.P.underlying dst = some (.slice e) ∧ evalS st.sl x = .str s
  ·obtain ⟨e, s, h1, h2⟩ := hc
   exact opS_convert_bytes hR hi hop h1 h2 h
  ·cases hno : decide (src = dst) && isOwnS (evalS st.sl x) with
   | true => exact opS_mark hR hi hop hno h hg
   | false => exact opS_convert_same hR hop (fun e s h1 h2 => hc ⟨e, s, h1, h2⟩) hno h
 | makeFunc fn fst cap =>
  cases fn with
  | func f => exact opS_makeFunc hR hop h
  | _ => unfold opS at h; rw [hop] at h; simp [hd] at h
 | makeInterface t x => exact opS_makeInterface hR hi hop h
 | makeSlice t l c => exact opS_makeSlice hR hi hop h hg
 | slice t x lo hi' mx => exact opS_slice hR hi hop h hg
 | fieldAddr t x n => exact opS_fieldAddr hgl hR hop h
 | field t x n => exact opS_field hR hop h
 | indexAddr t x y => exact opS_indexAddr hgl hR hop h hg
 | index t x y => exact opS_index hR hop h hg
 | extract x n => exact opS_extract hR hop h
 | makeMap t rs => exact opS_makeMap hR hi hop h
 | mapUpdate t m k v => exact opS_mapUpdate hR hi (.inl hop) h
 | insert t m k v => exact opS_mapUpdate hR hi (.inr hop) h
 | lookup t m k okk => exact opS_lookup hR hop h
 | call c =>
  obtain ⟨cal, args, tys⟩ := c
  cases cal with
  | builtin b => exact opS_builtin hR hi hop h hg
  | value f => unfold opS at h; rw [hop] at h; simp [hd] at h
  | invoke f n => unfold opS at h; rw [hop] at h; simp [hd] at h
 | _ => unfold opS at h; rw [hop] at h; simp [hd] at h
end
end Go.Ab
