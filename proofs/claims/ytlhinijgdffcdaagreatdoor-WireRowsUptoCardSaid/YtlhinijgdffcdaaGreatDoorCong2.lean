/- The same of calls. -/
import Derived.Test.YtlhinijgdffcdaaGreatDoorCong
namespace Go.Ab
open Go
set_option linter.unusedVariables false
set_option linter.unusedSimpArgs false
section
variable {tb tb' : Tbl}
theorem entKeys_congr : ∀ {ks : List Nat}, (∀ k ∈ ks, tb' k = tb k) → entKeys tb' ks = entKeys tb ks
 | [], _ => rfl
 | k :: r, h => by simp only [entKeys, h k List.mem_cons_self, entKeys_congr (fun j hj => h j (List.mem_cons_of_mem _ hj))]
theorem entKeys_mono {A B : List Nat} (h : ∀ k ∈ A, k ∈ B) : ∀ k ∈ entKeys tb A, k ∈ entKeys tb B := by
 have mem : ∀ (l : List Nat) (k : Nat), k ∈ entKeys tb l ↔ ∃ j ∈ l, ∃ e, tb j = some e ∧ k ∈ e.keys := by
  intro l
  induction l with
  | nil => intro k; simp [entKeys]
  | cons j r ih =>
   intro k
   simp only [entKeys, List.mem_append, ih]
   constructor
   ·rintro (h | ⟨m, h1, h2⟩)
    ·cases he : tb j with
     | none => simp [he] at h
     | some e => simp only [he] at h; exact ⟨j, List.mem_cons_self, e, he, h⟩
    ·exact ⟨m, List.mem_cons_of_mem _ h1, h2⟩
   ·rintro ⟨m, h1, e, h2, h3⟩
    rcases List.mem_cons.1 h1 with rfl | h1
    ·left; simp only [h2]; exact h3
    ·exact .inr ⟨m, h1, e, h2, h3⟩
 intro k hk
 rw [mem] at hk ⊢
 obtain ⟨j, h1, h2⟩ := hk
 exact ⟨j, h j h1, h2⟩
theorem reach_sub (n : Nat) (ks : List Nat) : ∀ k ∈ ks, k ∈ reach tb n ks := by
 obtain ⟨q, h, _⟩ := reach_spec tb n ks
 intro k hk
 rw [h]; exact List.mem_append_left _ hk
theorem addAll_mem {acc l : List Nat} {k : Nat} : k ∈ addAll acc l ↔ k ∈ acc ∨ k ∈ l := by
 obtain ⟨_, _, _, h⟩ := addAll_spec l acc
 exact h k
theorem reach_congr : ∀ (n : Nat) {A B : List Nat}, (∀ k ∈ A, k ∈ B) → (∀ k ∈ reach tb n B, tb' k = tb k) → reach tb' n A = reach tb n A ∧ ∀ k ∈ reach tb n A, k ∈ reach tb n B
 | 0, A, B, h, _ => ⟨rfl, h⟩
 | n + 1, A, B, h, hk => by
  simp only [reach] at hk ⊢
  have hB : ∀ k ∈ B, k ∈ reach tb n (addAll B (entKeys tb B)) := fun k hk' => reach_sub n _ k (addAll_mem.2 (.inl hk'))
  rw [entKeys_congr (fun k hk' => hk k (hB k (h k hk')))]
  refine reach_congr n ?_ hk
  intro k hk'
  rw [addAll_mem] at hk' ⊢
  rcases hk' with hk' | hk'
  ·exact .inl (h k hk')
  ·exact .inr (entKeys_mono h k hk')
theorem entsOf_congr {ρ : Nat → Nat} : ∀ {ks : List Nat}, (∀ k ∈ ks, tb' k = tb k) → entsOf tb' ρ ks = entsOf tb ρ ks
 | [], _ => rfl
 | k :: r, h => by simp only [entsOf, h k List.mem_cons_self, entsOf_congr (fun j hj => h j (List.mem_cons_of_mem _ hj))]
theorem argsC_congr {P : Program} : ∀ (ts : List TypeId) (l : List S), (∀ k ∈ keysOfL l, tb' k = tb k) → argsC P tb' ts l = argsC P tb ts l
 | [], l, _ => by simp [argsC]
 | t :: ts, [], _ => by simp [argsC]
 | t :: ts, v :: l, h => by
  simp only [argsC]
  rw [argsC_congr ts l (fun k hk => h k (by simp [keysOfL, hk]))]
  have : ∀ ty, lower tb' v ty = lower tb v ty := fun ty => lower_congr (fun k hk => h k (by simp [keysOfL, own_keys hk]))
  simp only [this]
theorem argsC_keys {P : Program} : ∀ (ts : List TypeId) (l : List S) {as : List S}, argsC P tb ts l = some as → ∀ k ∈ keysOfL as, k ∈ keysOfL l
 | [], l, as, h => by simp [argsC] at h; subst h; exact fun k hk => hk
 | t :: ts, [], as, h => by simp [argsC] at h
 | t :: ts, v :: l, as, h => by
  simp only [argsC] at h
  split at h <;> try contradiction
  rename_i r hr
  have ih := argsC_keys ts l hr
  split at h
  ·simp only [Option.map_eq_some_iff] at h
   obtain ⟨x, _, rfl⟩ := h
   intro k hk
   simp only [keysOfL, lift_keys, List.nil_append] at hk ⊢
   exact List.mem_append_right _ (ih k hk)
  ·simp only [Option.some.injEq] at h; subst h
   intro k hk
   simp only [keysOfL, List.mem_append] at hk ⊢
   rcases hk with hk | hk
   ·exact .inl hk
   ·exact .inr (ih k hk)
theorem lowKeys_keys {P : Program} : ∀ (ts : List TypeId) (l : List S), ∀ k ∈ lowKeys P ts l, k ∈ keysOfL l
 | [], l, k, hk => by simp [lowKeys] at hk
 | t :: ts, [], k, hk => by simp [lowKeys] at hk
 | t :: ts, v :: l, k, hk => by
  simp only [lowKeys, keysOfL, List.mem_append] at hk ⊢
  rcases hk with hk | hk
  ·split at hk
   ·exact .inl (own_keys hk)
   ·simp at hk
  ·exact .inr (lowKeys_keys ts l k hk)
theorem keysL_append (l m : List S) : keysOfL (l ++ m) = keysOfL l ++ keysOfL m := by
 induction l with
 | nil => rfl
 | cons f r ih => simp [keysOfL, ih]
theorem CallDid.congr {C : Ctx} {raw : FuncId → Bool} {ep d : Nat} {f : FuncId} {args : List S} {v : S} {ef : List (Nat × Option Ent)} {fn : Func} {as : List S} {es : List Ent} {v' : S} {es' : List Ent} {B : List Nat}
  (hB : ∀ k ∈ keysOfL args, k ∈ B) (h : ∀ k ∈ reach tb 4 (addAll [] B), tb' k = tb k) (H : CallDid C raw ep d f args tb v ef fn as es v' es') : CallDid C raw ep d f args tb' v ef fn as es v' es' := by
 obtain ⟨hfn, has, hes, hlen, hd, hlows, hok, hlen1, hlen2, hv, hef⟩ := H
 have hBr : ∀ k ∈ B, tb' k = tb k := fun k hk => h k (reach_sub 4 _ k (addAll_mem.2 (.inr hk)))
 have hask : ∀ k ∈ keysOfL as, k ∈ keysOfL args := by
  unfold asK at has
  split at has
  ·simp only [Option.some.injEq] at has; subst has; exact fun k hk => hk
  ·exact argsC_keys _ _ has
 have hsub : ∀ k ∈ addAll [] (keysOfL as), k ∈ addAll [] B := by
  intro k hk
  rw [addAll_mem] at hk ⊢
  rcases hk with hk | hk
  ·exact .inl hk
  ·exact .inr (hB k (hask k hk))
 obtain ⟨q1, q2⟩ := reach_congr 4 hsub h
 have hall : allK tb' as = allK tb as := q1
 have hpk : ∀ k ∈ allK tb as, pinK tb' k = pinK tb k := by
  intro k hk
  unfold pinK
  rw [h k (q2 k hk)]
 have hpins : pinsK raw f tb' as = pinsK raw f tb as := by
  unfold pinsK; rw [hall]; exact List.filter_congr fun k hk => by rw [hpk k hk]
 have howns : ownsK raw f tb' as = ownsK raw f tb as := by
  unfold ownsK; rw [hall]; exact List.filter_congr fun k hk => by rw [hpk k hk]
 have hks : ksK raw f tb' as = ksK raw f tb as := by unfold ksK; rw [hpins, howns]
 have hksall : ∀ k ∈ ksK raw f tb as, k ∈ allK tb as := by
  intro k hk
  unfold ksK pinsK ownsK at hk
  rw [List.mem_append, List.mem_filter, List.mem_filter] at hk
  rcases hk with hk | hk <;> exact hk.1
 refine ⟨hfn, ?_, ?_, ?_, hd, ?_, ?_, ?_, hlen2, ?_, ?_⟩
 ·rw [← has]
  unfold asK
  rw [argsC_congr _ _ (fun k hk => hBr k (hB k hk))]
 ·rw [hks, ← hes]
  exact entsOf_congr fun k hk => h k (q2 k (hksall k hk))
 ·rw [hks]; exact hlen
 ·rw [hks]; exact hlows
 ·rw [hks]; exact hok
 ·rw [hpins]; exact hlen1
 ·rw [hpins]; exact hv
 ·have hq : args.all (lowB tb') = args.all (lowB tb) := by
   have hg : ∀ l : List S, (∀ k ∈ keysOfL l, tb' k = tb k) → l.all (lowB tb') = l.all (lowB tb) := by
    intro l
    induction l with
    | nil => intro _; rfl
    | cons a r ih =>
     intro hl
     have h1 : lowB tb' a = lowB tb a := by
      cases a with
      | twn u k n =>
       simp only [lowB]
       rw [hl k (by simp [keysOfL, keysOf])]
      | _ => rfl
     rw [List.all_cons, List.all_cons, h1, ih fun k hk => hl k (by simp only [keysOfL, List.mem_append]; exact .inr hk)]
   exact hg args fun k hk => hBr k (hB k hk)
  rw [hpins, howns, hef, hq]
  congr 2
  split
  ·rfl
  ·refine (freezes_congr fun k hk => hBr k (hB k ?_)).symm
   unfold lowsK at hk
   split at hk
   ·simp at hk
   ·exact lowKeys_keys _ _ k hk
end
end Go.Ab
