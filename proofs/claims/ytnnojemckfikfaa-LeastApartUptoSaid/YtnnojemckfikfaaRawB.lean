/- RawB: a part of the proofs of this seat's statements. -/
import Derived.Test.YtnnojemckfikfaaRaw7
import Derived.Orders
/- Regions whose order is drawn, and counted loops, as the machine does them. -/
namespace Go.Ab
open Go
set_option linter.unusedVariables false
set_option linter.unusedSimpArgs false

/-- what an operation of a drawn region comes to, once those it waits for have run -/
def DOp (P : Program) (ops : Array Oper) (D i : Nat) (vals : Nat → Value) (a : Act) (w : World) : Prop :=
  ∃ o, ops[i]? = some o ∧ o.dst = some (D + i) ∧ (∀ e ∈ o.after.toList, e.on < i) ∧
    ∀ a' : Act, a'.tmps.size = a.tmps.size → (∀ t : Nat, t < D ∨ D + ops.size ≤ t → a'.eval (.tmp t) = a.eval (.tmp t)) → (∀ e ∈ o.after.toList, Region.binds .any e = true → a'.eval (.tmp (D + e.on)) = vals e.on) →
      (Region.wanted o (yielded ops a'.tmps) = true ∧ (execOp a'.eval o).run P w = .ok (.value (vals i)) w) ∨ (Region.wanted o (yielded ops a'.tmps) = false ∧ vals i = undef)

structure DSt (D n m : Nat) (vals : Nat → Value) (a : Act) (L : Array Bool) (a' : Act) : Prop where
  size : a'.tmps.size = a.tmps.size
  df : a'.defers = a.defers
  out : ∀ t : Nat, t < D ∨ D + m ≤ t → a'.eval (.tmp t) = a.eval (.tmp t)
  val : ∀ j : Nat, j < n → L.getD j false = true → a'.eval (.tmp (D + j)) = vals j

theorem ready_iff {ops : Array Oper} {L : Array Bool} {i : Nat} : i ∈ Region.ready .any ops L ↔ i < ops.size ∧ L.getD i true = false ∧ ∃ o, ops[i]? = some o ∧ ∀ e ∈ o.after.toList, Region.binds .any e = true → L.getD e.on false = true := by
  unfold Region.ready
  rw [List.mem_filter, List.mem_range, Bool.and_eq_true, Bool.not_eq_true']
  constructor
  · rintro ⟨h1, h2, h3⟩
    refine ⟨h1, h2, ops[i], Array.getElem?_eq_getElem h1, ?_⟩
    rw [Array.getElem?_eq_getElem h1] at h3
    simp only [Option.map_some, Option.getD_some] at h3
    intro e he hb
    have := Array.all_eq_true_iff_forall_mem.1 h3 e (Array.mem_toList_iff.1 he)
    rw [hb] at this
    simpa using this
  · rintro ⟨h1, h2, o, h3, h4⟩
    refine ⟨h1, h2, ?_⟩
    rw [h3]
    simp only [Option.map_some, Option.getD_some]
    rw [Array.all_eq_true_iff_forall_mem]
    intro e he
    cases hb : Region.binds .any e with
    | false => rfl
    | true => simpa using h4 e (Array.mem_toList_iff.2 he) hb

theorem wpAny_done {P : Program} {ops : Array Oper} {Q : Exit → Act → World → Prop} {L : Array Bool} {a : Act} {w : World} (hall : ∀ i, i < ops.size → L.getD i true = true) (h : Q .normal a w) : ∀ fuel, wpAny P .any ops Q fuel L a w := by
  have hr : Region.ready .any ops L = [] := by
    cases hx : Region.ready .any ops L with
    | nil => rfl
    | cons x r =>
      have := (ready_iff (ops := ops) (L := L) (i := x)).1 (by rw [hx]; exact List.mem_cons_self)
      rw [hall x this.1] at this
      cases this.2.1
  intro fuel
  cases fuel with
  | zero => exact ⟨hr, h⟩
  | succ f => exact ⟨fun _ => h, fun i hi => by rw [hr] at hi; cases hi⟩

theorem getD_setB (L : Array Bool) (i j : Nat) (hi : i < L.size) (d : Bool) : (L.setIfInBounds i true).getD j d = if j = i then true else L.getD j d := by
  rw [Array.getD_eq_getD_getElem?, Array.getD_eq_getD_getElem?]
  by_cases h : j = i
  · subst h; rw [if_pos rfl, Array.getElem?_setIfInBounds_self_of_lt hi]; rfl
  · rw [if_neg h, Array.getElem?_setIfInBounds_ne (fun q => h q.symm)]

/-- a drawn region: values, and a store behind them all -/
theorem drawn_reg {P : Program} {ops : Array Oper} {D n : Nat} {vals : Nat → Value} {a : Act} {w w1 : World} {Q : Exit → Act → World → Prop} {oN : Oper} (hn : ops.size = n + 1) (hD : D + n ≤ a.tmps.size) (hv : ∀ i, i < n → DOp P ops D i vals a w)
    (ho : ops[n]? = some oN) (hd : oN.dst = none) (hg : oN.guard = none) (haft : ∀ i, i < n → ∃ e ∈ oN.after.toList, e.on = i ∧ Region.binds .any e = true) (hlt : ∀ e ∈ oN.after.toList, e.on < n)
    (hx : ∀ a' : Act, a'.tmps.size = a.tmps.size → (∀ t : Nat, t < D ∨ D + ops.size ≤ t → a'.eval (.tmp t) = a.eval (.tmp t)) → (∀ j, j < n → a'.eval (.tmp (D + j)) = vals j) → (execOp a'.eval oN).run P w = .ok .skip w1)
    (hQ : ∀ a' : Act, a'.tmps.size = a.tmps.size → a'.defers = a.defers → (∀ t : Nat, t < D ∨ D + ops.size ≤ t → a'.eval (.tmp t) = a.eval (.tmp t)) → Q .normal a' w1) :
    ∀ (fuel : Nat) (L : Array Bool) (a' : Act), L.size = n + 1 → L.getD n true = false → (∀ i, i < n → L.getD i true = L.getD i false) → DSt D n (n + 1) vals a L a' → L.toList.count false ≤ fuel → wpAny P .any ops Q fuel L a' w
  | 0, L, a', hs, hl, _, _, hc => by
    exfalso
    have : false ∈ L.toList := by
      rw [List.mem_iff_getElem?]
      refine ⟨n, ?_⟩
      have hnl : n < L.size := by omega
      rw [Array.getElem?_toList, Array.getElem?_eq_getElem hnl]
      rw [Array.getD_eq_getD_getElem?, Array.getElem?_eq_getElem hnl] at hl
      exact congrArg some hl
    have := List.count_pos_iff.2 this
    omega
  | fuel + 1, L, a', hs, hl, hLL, hS, hc => by
    have hcnt : ∀ i, i < n + 1 → L.getD i true = false → (L.setIfInBounds i true).toList.count false ≤ fuel := by
      intro i hi hf
      have hil : i < L.size := by omega
      rw [Array.toList_setIfInBounds, List.count_set (by simpa using hil)]
      have hv : L.toList[i]'(by simpa using hil) = false := by
        rw [Array.getD_eq_getD_getElem?, Array.getElem?_eq_getElem hil] at hf
        simpa using hf
      rw [hv]
      show L.toList.count false - 1 + 0 ≤ fuel
      omega
    refine ⟨fun hr => ?_, fun i hi => ?_⟩
    · -- something is ready
      exfalso
      obtain ⟨i, hi, hmin⟩ : ∃ i, (i < n + 1 ∧ L.getD i true = false) ∧ ∀ j, j < i → L.getD j true = true := by
        have key : ∀ m, (∀ j, j < m → L.getD j true = true) ∨ ∃ i, (i < m ∧ L.getD i true = false) ∧ ∀ j, j < i → L.getD j true = true := by
          intro m
          induction m with
          | zero => exact .inl fun j hj => by omega
          | succ m ih =>
            rcases ih with h | ⟨i, h1, h2⟩
            · cases hm : L.getD m true with
              | false => exact .inr ⟨m, ⟨by omega, hm⟩, h⟩
              | true =>
                left
                intro j hj
                by_cases hjm : j = m
                · rw [hjm]; exact hm
                · exact h j (by omega)
            · exact .inr ⟨i, ⟨by omega, h1.2⟩, h2⟩
        rcases key (n + 1) with h | ⟨i, h1, h2⟩
        · rw [h n (by omega)] at hl; cases hl
        · exact ⟨i, h1, h2⟩
      have hmem : i ∈ Region.ready .any ops L := by
        refine ready_iff.2 ⟨by omega, hi.2, ?_⟩
        by_cases hin : i < n
        · obtain ⟨o, o1, _, o3, _⟩ := hv i hin
          refine ⟨o, o1, fun e he _ => ?_⟩
          have := o3 e he
          rw [← hLL e.on (by omega)]
          exact hmin _ this
        · have : i = n := by omega
          subst this
          refine ⟨oN, ho, fun e he _ => ?_⟩
          have := hlt e he
          rw [← hLL e.on (by omega)]
          exact hmin _ this
      rw [hr] at hmem; cases hmem
    · obtain ⟨i1, i2, o, i3, i4⟩ := ready_iff.1 hi
      by_cases hin : i < n
      · obtain ⟨o', o1, o2, o3, o4⟩ := hv i hin
        rw [i3] at o1; cases o1
        have hval : ∀ e ∈ o.after.toList, Region.binds .any e = true → a'.eval (.tmp (D + e.on)) = vals e.on := fun e he hb => hS.val e.on (by have := o3 e he; omega) (i4 e he hb)
        have hnext : ∀ a'' : Act, Puts a' (D + i) (vals i) a'' → wpAny P .any ops Q fuel (L.setIfInBounds i true) a'' w := by
          intro a'' hp
          refine drawn_reg hn hD hv ho hd hg haft hlt hx hQ fuel _ a'' (by simpa using hs) ?_ ?_ ⟨hp.size.trans hS.size, hp.df.trans hS.df, fun t ht => ?_, fun j hj hLj => ?_⟩ (hcnt i (by omega) i2)
          · rw [getD_setB _ _ _ (by omega), if_neg (by omega)]; exact hl
          · intro j hj
            rw [getD_setB _ _ _ (by omega), getD_setB _ _ _ (by omega)]
            split
            · rfl
            · exact hLL j hj
          · rw [hp.ne (by omega)]; exact hS.out t ht
          · by_cases hji : j = i
            · rw [hji]; exact hp.at
            · rw [hp.ne (by omega)]
              rw [getD_setB _ _ _ (by omega), if_neg hji] at hLj
              exact hS.val j hj hLj
        have hsz : D + i < a'.tmps.size := by rw [hS.size]; omega
        unfold wpOp
        rw [i3]
        simp only
        rcases o4 a' hS.size (fun t ht => hS.out t (by omega)) hval with ⟨q1, q2⟩ | ⟨q1, q2⟩
        · rw [q1, if_pos rfl]
          left
          unfold Oper.wp
          rw [q2]
          show wpAny P .any ops Q fuel _ (a'.put o.dst (vals i)) w
          rw [o2]
          exact hnext _ (puts a' (vals i) hsz)
        · rw [q1, if_neg (by simp)]
          rw [o2, ← q2]
          exact hnext _ (puts a' (vals i) hsz)
      · have hin' : i = n := by omega
        subst hin'
        rw [ho] at i3; cases i3
        have hall : ∀ j, j < i → L.getD j false = true := by
          intro j hj
          obtain ⟨e, e1, e2, e3⟩ := haft j hj
          rw [← e2]; exact i4 e e1 e3
        have hexec := hx a' hS.size (fun t ht => hS.out t (by omega)) fun j hj => hS.val j hj (hall j hj)
        unfold wpOp
        rw [ho]
        simp only
        rw [if_pos (by simp [Region.wanted, hg])]
        left
        unfold Oper.wp
        rw [hexec]
        show wpAny P .any ops Q fuel _ (a'.put oN.dst undef) w1
        rw [hd]
        refine wpAny_done (fun j hj => ?_) (hQ a' hS.size hS.df fun t ht => hS.out t (by omega)) fuel
        rw [getD_setB _ _ _ (by omega)]
        split
        · rfl
        · rw [hLL j (by omega)]; exact hall j (by omega)
end Go.Ab

/- Counted loops, as the machine does them. -/
namespace Go.Ab
open Go
set_option linter.unusedVariables false
set_option linter.unusedSimpArgs false

/-- the head of a loop that counts up to what a slot holds -/
structure HeadO (ti : TypeId) (oH : Array Oper) (h c nS : Nat) : Prop where
  s : oH.size = 3
  p0 : OpIs oH 0 (.move (.tmp c)) (some h)
  p1 : OpIs oH 1 (.move (.tmp nS)) (some (h + 1))
  p2 : OpIs oH 2 (.binOp .lss ti (.tmp h) (.tmp (h + 1)) ti) (some (h + 2))
/-- its step -/
structure IncO (ti : TypeId) (oI : Array Oper) (g c : Nat) : Prop where
  s : oI.size = 3
  p0 : OpIs oI 0 (.move (.tmp c)) (some g)
  p1 : OpIs oI 1 (.binOp .add ti (.tmp g) (.const (.int .i64 1)) ti) (some (g + 1))
  p2 : OpIs oI 2 (.assign (.tmp (g + 1))) (some c)
/-- a slot is set to nought -/
structure ZeroO (oZ : Array Oper) (c : Nat) : Prop where
  s : oZ.size = 1
  p0 : OpIs oZ 0 (.assign (.const (.int .i64 0))) (some c)

section
variable {P : Program} {ti : TypeId}

theorem zero_wp {oZ : Array Oper} {c : Nat} (Z : ZeroO oZ c) {id : Nat} {a : Act} {w : World} (hc : c < a.tmps.size) (Q : Exit → Act → World → Prop) (hQ : ∀ a', Puts a c (.int .i64 0) a' → Q .normal a' w) : (Code.region id oZ false).wp P Q a w := by
  refine wp_region ?_
  rw [Z.s]
  show wpOps P oZ Q [0] a w
  refine Z.p0.val (fun o ho => ex_assign ho) ?_
  rw [ev_const]
  exact hQ _ (puts a _ hc)

theorem head_wp {oH : Array Oper} {h c nS : Nat} (H : HeadO ti oH h c nS) (hc : c < h) (hn : nS < h) {id N i : Nat} {a : Act} {w : World} (hsz : h + 3 ≤ a.tmps.size) (ec : a.eval (.tmp c) = .int .i64 (i : Int)) (en : a.eval (.tmp nS) = .int .i64 (N : Int)) (Q : Exit → Act → World → Prop)
    (hQ : ∀ a1 a2 a3, Puts a h (.int .i64 (i : Int)) a1 → Puts a1 (h + 1) (.int .i64 (N : Int)) a2 → Puts a2 (h + 2) (.bool (decide ((i : Int) < (N : Int)))) a3 → Q .normal a3 w) : (Code.region id oH false).wp P Q a w := by
  refine wp_region ?_
  rw [H.s]
  show wpOps P oH Q [0, 1, 2] a w
  refine H.p0.val (fun o ho => ex_move ho) ?_
  rw [ec]
  have p0 := puts a (d := h) (.int .i64 (i : Int)) (by omega)
  generalize a.put (some h) (.int .i64 (i : Int)) = a1 at p0 ⊢
  refine H.p1.val (fun o ho => ex_move ho) ?_
  rw [p0.ne (show nS ≠ h by omega), en]
  have p1 := puts a1 (d := h + 1) (.int .i64 (N : Int)) (by rw [p0.size]; omega)
  generalize a1.put (some (h + 1)) (.int .i64 (N : Int)) = a2 at p1 ⊢
  refine H.p2.val (fun o ho => ex_lss ho (by rw [p1.ne (show h ≠ h + 1 by omega)]; exact p0.at) p1.at) ?_
  exact hQ _ _ _ p0 p1 (puts a2 _ (by rw [p1.size, p0.size]; omega))

theorem inc_wp {oI : Array Oper} {g c : Nat} (I : IncO ti oI g c) (hc : c < g) {id i : Nat} (hi : i < 4611686018427387904) {a : Act} {w : World} (hsz : g + 2 ≤ a.tmps.size) (ec : a.eval (.tmp c) = .int .i64 (i : Int)) (Q : Exit → Act → World → Prop)
    (hQ : ∀ a1 a2 a3, Puts a g (.int .i64 (i : Int)) a1 → Puts a1 (g + 1) (.int .i64 ((i + 1 : Nat) : Int)) a2 → Puts a2 c (.int .i64 ((i + 1 : Nat) : Int)) a3 → Q .normal a3 w) : (Code.region id oI false).wp P Q a w := by
  refine wp_region ?_
  rw [I.s]
  show wpOps P oI Q [0, 1, 2] a w
  refine I.p0.val (fun o ho => ex_move ho) ?_
  rw [ec]
  have p0 := puts a (d := g) (.int .i64 (i : Int)) (by omega)
  generalize a.put (some g) (.int .i64 (i : Int)) = a1 at p0 ⊢
  refine I.p1.val (fun o ho => ex_add ho p0.at (ev_const a1 _)) ?_
  rw [wi64 i hi]
  have p1 := puts a1 (d := g + 1) (.int .i64 ((i + 1 : Nat) : Int)) (by rw [p0.size]; omega)
  generalize a1.put (some (g + 1)) (.int .i64 ((i + 1 : Nat) : Int)) = a2 at p1 ⊢
  refine I.p2.val (fun o ho => ex_assign ho) ?_
  rw [p1.at]
  exact hQ _ _ _ p0 p1 (puts a2 _ (by rw [p1.size, p0.size]; omega))

/-- a loop that counts -/
theorem for_wp {oH oI : Array Oper} {t g c bId b1 rh ri N : Nat} {body : Code} (I : IncO ti oI g c) (hcg : c < g) (hct : t ≠ c) (hN : N < 4611686018427387904) (J : Nat → Act → World → Prop) (Ret : Act → World → Prop)
    (hsz : ∀ i a w, J i a w → g + 2 ≤ a.tmps.size)
    (hput : ∀ i a a' w d u, d = g ∨ d = g + 1 ∨ d = c → Puts a d u a' → J i a w → J i a' w)
    (hhead : ∀ i, i ≤ N → ∀ a w, J i a w → a.eval (.tmp c) = .int .i64 (i : Int) → ∀ Q' : Exit → Act → World → Prop, (∀ a', J i a' w → a'.eval (.tmp c) = .int .i64 (i : Int) → a'.eval (.tmp t) = .bool (decide ((i : Int) < (N : Int))) → Q' .normal a' w) → (Code.region rh oH false).wp P Q' a w)
    (hbody : ∀ i, i < N → ∀ a w, J i a w → a.eval (.tmp c) = .int .i64 (i : Int) → ∀ Q' : Exit → Act → World → Prop, (∀ a' w', J (i + 1) a' w' → a'.eval (.tmp c) = .int .i64 (i : Int) → Q' .normal a' w') → (∀ a' w', Ret a' w' → Q' .ret a' w') → body.wp P Q' a w)
    {a : Act} {w : World} (h0 : J 0 a w) (hc : a.eval (.tmp c) = .int .i64 0) (Q : Exit → Act → World → Prop) (hQ : ∀ a' w', J N a' w' → Q .normal a' w') (hRet : ∀ a' w', Ret a' w' → Q .ret a' w') :
    (Code.block bId (.loop (.seq (.seq (.region rh oH false) (.cond (.tmp t) .skip (.exit bId))) (.seq (.block b1 body) (.region ri oI false))))).wp P Q a w := by
  refine wp_block (wp_loop (fun a w => ∃ i, i ≤ N ∧ J i a w ∧ a.eval (.tmp c) = .int .i64 (i : Int)) (fun a w => match a.eval (.tmp c) with | .int _ v => ((N : Int) - v).toNat | _ => 0) ⟨0, Nat.zero_le _, h0, hc⟩ ?_)
  clear h0 hc
  rintro a w ⟨i, hi, hJ, ec⟩
  refine wp_seq (wp_seq (hhead i hi a w hJ ec _ fun a1 hJ1 ec1 et => ?_))
  show Code.wp _ _ _ a1 w
  by_cases hlt : i < N
  · rw [decide_eq_true (by omega : (i : Int) < (N : Int))] at et
    refine wp_cond_true et (wp_skip ?_)
    show Code.wp _ _ _ a1 w
    refine wp_seq (wp_block (hbody i hlt a1 w hJ1 ec1 _ (fun a2 w2 hJ2 ec2 => ?_) fun a2 w2 hr => ?_))
    · show Code.wp _ _ _ a2 w2
      refine inc_wp I hcg (by omega) (hsz _ _ _ hJ2) ec2 _ fun a3 a4 a5 p3 p4 p5 => ?_
      have h3 := hput _ _ _ _ _ _ (.inl rfl) p3 hJ2
      have h4 := hput _ _ _ _ _ _ (.inr (.inl rfl)) p4 h3
      have h5 := hput _ _ _ _ _ _ (.inr (.inr rfl)) p5 h4
      show (∃ i, _) ∧ _
      refine ⟨⟨i + 1, hlt, h5, p5.at⟩, ?_⟩
      rw [p5.at, ec]
      show ((N : Int) - ((i + 1 : Nat) : Int)).toNat < ((N : Int) - (i : Int)).toNat
      omega
    · exact hRet _ _ hr
  · rw [decide_eq_false (by omega : ¬ (i : Int) < (N : Int))] at et
    refine wp_cond_false et (wp_exit ?_)
    have : i = N := by omega
    subst this
    show Exit.inBlock bId Q (.exit bId) a1 w
    simp only [Exit.inBlock, if_true]
    exact hQ _ _ hJ1
end

/-! ### a square of bits -/
structure Mat (w : World) (b n nI : Nat) (tR tB : TypeId) (bs : Nat → Nat) (X : Nat → Nat → Bool) : Prop where
  out : ∃ hs : Array Value, w.heap[b]? = some (.cells hs tR (0, 0)) ∧ hs.size = n ∧ ∀ i, i < nI → hs[i]? = some (.slice (some ⟨bs i, 0, none⟩) n n)
  row : ∀ i, i < nI → ∃ cs : Array Value, w.heap[bs i]? = some (.cells cs tB (0, 0)) ∧ cs.size = n ∧ ∀ j, j < n → cs[j]? = some (.bool (X i j))
  apart : ∀ i j, i < nI → j < nI → bs i = bs j → i = j
  other : ∀ i, i < nI → bs i ≠ b ∧ bs i < w.heap.size
theorem Mat.hdr {w : World} {b n nI : Nat} {tR tB : TypeId} {bs : Nat → Nat} {X : Nat → Nat → Bool} (h : Mat w b n nI tR tB bs X) {i : Nat} (hi : i < nI) : w.cell? ⟨b, i, none⟩ = some (.slice (some ⟨bs i, 0, none⟩) n n) := by
  obtain ⟨hs, h1, _, h3⟩ := h.out
  rw [cell_arr h1]; exact h3 i hi
theorem Mat.bit {w : World} {b n nI : Nat} {tR tB : TypeId} {bs : Nat → Nat} {X : Nat → Nat → Bool} (h : Mat w b n nI tR tB bs X) {i j : Nat} (hi : i < nI) (hj : j < n) : w.cell? ⟨bs i, j, none⟩ = some (.bool (X i j)) := by
  obtain ⟨cs, h1, _, h3⟩ := h.row i hi
  rw [cell_arr h1]; exact h3 j hj
def updM (X : Nat → Nat → Bool) (i j : Nat) (v : Bool) : Nat → Nat → Bool := fun p q => if p = i ∧ q = j then v else X p q

/-- one bit is set: the machine's store -/
theorem Mat.store {P : Program} {w : World} {b n nI : Nat} {tR tB : TypeId} {bs : Nat → Nat} {X : Nat → Nat → Bool} (h : Mat w b n nI tR tB bs X) {i j : Nat} (hi : i < nI) (hj : j < n) (v : Bool) (hs1 : cellsT P tB = some 1) :
    ∃ w1 : World, (∀ (ev : Operand → Value) (o : Oper) (x y : Operand), o.op = .store tB x y → ev x = .pointer (some ⟨bs i, j, none⟩) → ev y = .bool v → (execOp ev o).run P w = .ok .skip w1) ∧ Mat w1 b n nI tR tB bs (updM X i j v) ∧ w1.heap.size = w.heap.size ∧ (∀ c, c ≠ bs i → w1.heap[c]? = w.heap[c]?) ∧ w1.os = w.os ∧ w1.tape = w.tape ∧ w1.output = w.output := by
  obtain ⟨cs, h1, h2, h3⟩ := h.row i hi
  have hb1 := heap_lt h1
  have h1v : (Value.bool v).oneCell' = true := by simp [Value.oneCell']
  obtain ⟨cs', q1, q2⟩ := run_storeRow (P := P) (b := bs i) (el := tB) (fz := (0, 0)) j [Value.bool v] 0 cs w h1 (.inl rfl) (by simp; omega) (by intro u hu; rw [List.mem_singleton.1 hu]; exact h1v)
  have hc1 : (Value.bool v).cells.toList = [Value.bool v] := rfl
  have hc2 : (Value.bool v).cells.size = 1 := rfl
  refine ⟨{ w with heap := w.heap.setIfInBounds (bs i) (.cells cs' tB (0, 0)) }, ?_, ?_, by simp, fun c hc => ?_, rfl, rfl, rfl⟩
  · intro ev o x y ho hx hy
    unfold execOp; rw [ho]
    simp only [Instr.storeAt, hx, Instr.sureAddr, storeVar, Sem.run_bind, Sem.run_pure, Result.andThen_ok, run_sizeT hs1, hy, hc2, ne_eq, not_true_eq_false, if_false, hc1, q1]
  · have hne : ∀ c, c ≠ bs i → (w.heap.setIfInBounds (bs i) (.cells cs' tB (0, 0)))[c]? = w.heap[c]? := fun c hc => Array.getElem?_setIfInBounds_ne (fun q => hc q.symm)
    obtain ⟨hs, g1, g2, g3⟩ := h.out
    refine ⟨⟨hs, ?_, g2, g3⟩, fun p hp => ?_, h.apart, fun p hp => ?_⟩
    · show (w.heap.setIfInBounds _ _)[b]? = _
      rw [hne b (fun q => (h.other i hi).1 q.symm)]; exact g1
    · by_cases hpi : p = i
      · subst hpi
        refine ⟨cs', ?_, ?_, fun q hq => ?_⟩
        · show (w.heap.setIfInBounds _ _)[bs p]? = _
          rw [Array.getElem?_setIfInBounds_self_of_lt hb1]
        · have := q2.1; simp at this; omega
        · rw [← Array.getElem?_toList, q2.2.2]
          unfold updM
          by_cases hqj : q = j
          · subst hqj; rw [if_pos (by simp), if_pos ⟨rfl, rfl⟩]; simp
          · rw [if_neg (by simp; omega), if_neg (fun z => hqj z.2), Array.getElem?_toList]; exact h3 q hq
      · obtain ⟨cp, r1, r2, r3⟩ := h.row p hp
        refine ⟨cp, ?_, r2, fun q hq => ?_⟩
        · show (w.heap.setIfInBounds _ _)[bs p]? = _
          rw [hne _ (fun z => hpi (h.apart p i hp hi z))]; exact r1
        · unfold updM; rw [if_neg (fun z => hpi z.1)]; exact r3 q hq
    · have := h.other p hp
      exact ⟨this.1, by show bs p < (w.heap.setIfInBounds _ _).size; simp; exact this.2⟩
  · show (w.heap.setIfInBounds _ _)[c]? = _
    rw [Array.getElem?_setIfInBounds_ne (fun q => hc q.symm)]
end Go.Ab

/- LeastApart: its own text: who is apart from whom, as the machine finds it. -/
namespace Go.Ab
open Go
set_option linter.unusedVariables false
set_option linter.unusedSimpArgs false
set_option maxRecDepth 4000

/-- one operation of a drawn region -/
def DIs (ops : Array Oper) (i : Nat) (op : Op) (d : Option Tmp) (deps : List Nat) (g : Option (Nat × Bool)) : Prop :=
  ∃ o, ops[i]? = some o ∧ o.op = op ∧ o.dst = d ∧ o.guard = g ∧ (o.after.toList.all fun e => decide (e.on < i)) = true ∧ (deps.all fun j => o.after.toList.any fun e => decide (e.on = j) && Region.binds .any e) = true

section
variable {P : Program} {ops : Array Oper} {D i : Nat} {vals : Nat → Value} {a : Act} {w : World} {op : Op} {deps : List Nat}
theorem DIs.dop (h : DIs ops i op (some (D + i)) deps none)
    (hx : ∀ a' : Act, a'.tmps.size = a.tmps.size → (∀ t : Nat, t < D ∨ D + ops.size ≤ t → a'.eval (.tmp t) = a.eval (.tmp t)) → (∀ j ∈ deps, a'.eval (.tmp (D + j)) = vals j) → ∀ o : Oper, o.op = op → (execOp a'.eval o).run P w = .ok (.value (vals i)) w) : DOp P ops D i vals a w := by
  obtain ⟨o, h1, h2, h3, h4, h5, h6⟩ := h
  refine ⟨o, h1, h3, fun e he => by simpa using List.all_eq_true.1 h5 e he, fun a' hs ho hd => .inl ⟨by simp [Region.wanted, h4], hx a' hs ho (fun j hj => ?_) o h2⟩⟩
  obtain ⟨e, he, hb⟩ := List.any_eq_true.1 (List.all_eq_true.1 h6 j hj)
  simp only [Bool.and_eq_true, decide_eq_true_eq] at hb
  rw [← hb.1]; exact hd e he hb.2
theorem yield_of {ops : Array Oper} {g D : Nat} {o : Oper} {b : Bool} (ho : ops[g]? = some o) (hd : o.dst = some (D + g)) {a' : Act} (hs : D + g < a'.tmps.size) (hv : a'.eval (.tmp (D + g)) = .bool b) : yielded ops a'.tmps g = some b := by
  have hv : a'.tmps.getD (D + g) undef = .bool b := hv
  rw [Array.getD_eq_getD_getElem?, Array.getElem?_eq_getElem hs] at hv
  unfold yielded
  rw [ho]
  simp only [Option.bind_some, hd]
  rw [Array.getElem?_eq_getElem hs]
  have hv : a'.tmps[D + g] = .bool b := hv
  rw [hv]
/-- under a guard that lets it run -/
theorem DIs.dopg {g : Nat} {b : Bool} (h : DIs ops i op (some (D + i)) deps (some (g, b))) (hgd : g ∈ deps) {og : Oper} (hog : ops[g]? = some og) (hdg : og.dst = some (D + g)) (hsz : D + g < a.tmps.size) (hvg : vals g = .bool b)
    (hx : ∀ a' : Act, a'.tmps.size = a.tmps.size → (∀ t : Nat, t < D ∨ D + ops.size ≤ t → a'.eval (.tmp t) = a.eval (.tmp t)) → (∀ j ∈ deps, a'.eval (.tmp (D + j)) = vals j) → ∀ o : Oper, o.op = op → (execOp a'.eval o).run P w = .ok (.value (vals i)) w) : DOp P ops D i vals a w := by
  obtain ⟨o, h1, h2, h3, h4, h5, h6⟩ := h
  refine ⟨o, h1, h3, fun e he => by simpa using List.all_eq_true.1 h5 e he, fun a' hs ho hd => ?_⟩
  have hdd : ∀ j ∈ deps, a'.eval (.tmp (D + j)) = vals j := fun j hj => by
    obtain ⟨e, he, hb⟩ := List.any_eq_true.1 (List.all_eq_true.1 h6 j hj)
    simp only [Bool.and_eq_true, decide_eq_true_eq] at hb
    rw [← hb.1]; exact hd e he hb.2
  have hy := yield_of hog hdg (a' := a') (by omega) ((hdd g hgd).trans hvg)
  exact .inl ⟨by simp [Region.wanted, h4, hy], hx a' hs ho hdd o h2⟩
/-- under a guard that does not -/
theorem DIs.dopn {g : Nat} {b c : Bool} (h : DIs ops i op (some (D + i)) deps (some (g, b))) (hgd : g ∈ deps) {og : Oper} (hog : ops[g]? = some og) (hdg : og.dst = some (D + g)) (hsz : D + g < a.tmps.size) (hvg : vals g = .bool c) (hbc : c ≠ b) (hv : vals i = undef) : DOp P ops D i vals a w := by
  obtain ⟨o, h1, h2, h3, h4, h5, h6⟩ := h
  refine ⟨o, h1, h3, fun e he => by simpa using List.all_eq_true.1 h5 e he, fun a' hs ho hd => ?_⟩
  have hdd : ∀ j ∈ deps, a'.eval (.tmp (D + j)) = vals j := fun j hj => by
    obtain ⟨e, he, hb⟩ := List.any_eq_true.1 (List.all_eq_true.1 h6 j hj)
    simp only [Bool.and_eq_true, decide_eq_true_eq] at hb
    rw [← hb.1]; exact hd e he hb.2
  have hy := yield_of hog hdg (a' := a') (by omega) ((hdd g hgd).trans hvg)
  refine .inr ⟨?_, hv⟩
  simp [Region.wanted, h4, hy, hbc]
end
section
variable {P : Program} {w : World} {ev : Operand → Value} {o : Oper}
theorem ex_neqb {t k : TypeId} {x y : Operand} {p q : Bool} (ho : o.op = .binOp .neq t x y k) (hu : P.underlying t = some .bool) (hx : ev x = .bool p) (hy : ev y = .bool q) : (execOp ev o).run P w = .ok (.value (.bool (p != q))) w := by
  have he : (Op.equal t (.bool p) (.bool q)).run P w = .ok (decide (p = q)) w := by
    unfold Op.equal Op.maxDepth
    rw [run_equalIn_bool' _ _ _ _ _ hu]
    congr 1
  unfold execOp; rw [ho]
  simp only [hx, hy, eqGuard_at_bool]
  have : binOp .neq t (.bool p) (.bool q) = (do pure (.bool (!(← Op.equal t (.bool p) (.bool q))))) := rfl
  rw [this]
  simp [he]
  cases p <;> cases q <;> rfl
theorem ex_neqi {t k : TypeId} {x y : Operand} {p q : Int} (ho : o.op = .binOp .neq t x y k) (hx : ev x = .int .i64 p) (hy : ev y = .int .i64 q) : (execOp ev o).run P w = .ok (.value (.bool (!(decide (p = q))))) w := by
  unfold execOp; rw [ho]
  simp [hx, hy, eqGuard, binOp, Op.intArith, Op.intDiv, Op.intBits, Op.intCmp, Op.shift, Sem.run, bind, pure, Sem.bind, bne, BEq.beq]
theorem ex_gtr {t k : TypeId} {x y : Operand} {p q : Int} (ho : o.op = .binOp .gtr t x y k) (hx : ev x = .int .i64 p) (hy : ev y = .int .i64 q) : (execOp ev o).run P w = .ok (.value (.bool (decide (q < p)))) w := by
  unfold execOp; rw [ho]
  simp [hx, hy, eqGuard, binOp, Op.intArith, Op.intDiv, Op.intBits, Op.intCmp, Op.shift, Sem.run, bind, pure, Sem.bind]
theorem ex_pick {x y z : Operand} {b : Bool} (ho : o.op = .pick x y z) (hx : ev x = .bool b) : (execOp ev o).run P w = .ok (.value (if b then ev y else ev z)) w := by
  unfold execOp; rw [ho]
  simp [hx, Sem.run, bind, pure, Sem.bind]
  cases b <;> rfl
end
structure R8 (ops : Array Oper) : Prop where
  s : ops.size = 4
  p0 : OpIs ops 0 (.fieldAddr 28 (.tmp 7) 1) (some 31)
  p1 : OpIs ops 1 (.load 25 (.tmp 31)) (some 32)
  p2 : OpIs ops 2 (.call { callee := .builtin .len, args := #[(.tmp 32)], argTypes := #[25] }) (some 33)
  p3 : OpIs ops 3 (.assign (.tmp 33)) (some 8)
structure R9 (ops : Array Oper) : Prop where
  s : ops.size = 3
  p0 : OpIs ops 0 (.move (.tmp 8)) (some 34)
  p1 : OpIs ops 1 (.makeSlice 42 (.tmp 34) (.tmp 34)) (some 35)
  p2 : OpIs ops 2 (.assign (.tmp 35)) (some 9)
structure R13 (ops : Array Oper) : Prop where
  s : ops.size = 6
  p0 : OpIs ops 0 (.move (.tmp 9)) (some 41)
  p1 : OpIs ops 1 (.move (.tmp 10)) (some 42)
  p2 : OpIs ops 2 (.move (.tmp 8)) (some 43)
  p3 : OpIs ops 3 (.makeSlice 26 (.tmp 43) (.tmp 43)) (some 44)
  p4 : OpIs ops 4 (.indexAddr 42 (.tmp 41) (.tmp 42)) (some 45)
  p5 : OpIs ops 5 (.store 26 (.tmp 45) (.tmp 44)) none
structure R28 (ops : Array Oper) : Prop where
  s : ops.size = 8
  p0 : OpIs ops 0 (.move (.tmp 15)) (some 83)
  p1 : OpIs ops 1 (.fieldAddr 28 (.tmp 7) 1) (some 84)
  p2 : OpIs ops 2 (.load 25 (.tmp 84)) (some 85)
  p3 : OpIs ops 3 (.move (.tmp 13)) (some 86)
  p4 : OpIs ops 4 (.indexAddr 25 (.tmp 85) (.tmp 86)) (some 87)
  p5 : OpIs ops 5 (.load 33 (.tmp 87)) (some 88)
  p6 : OpIs ops 6 (.call { callee := .builtin .len, args := #[(.tmp 88)], argTypes := #[33] }) (some 89)
  p7 : OpIs ops 7 (.binOp .lss 3 (.tmp 83) (.tmp 89) 3) (some 90)
structure R37 (ops : Array Oper) : Prop where
  s : ops.size = 11
  p0 : OpIs ops 0 (.move (.tmp 9)) (some 139)
  p1 : OpIs ops 1 (.move (.tmp 16)) (some 140)
  p2 : OpIs ops 2 (.indexAddr 42 (.tmp 139) (.tmp 140)) (some 141)
  p3 : OpIs ops 3 (.load 26 (.tmp 141)) (some 142)
  p4 : OpIs ops 4 (.move (.tmp 17)) (some 143)
  p5 : OpIs ops 5 (.indexAddr 26 (.tmp 142) (.tmp 143)) (some 144)
  p6 : OpIs ops 6 (.load 4 (.tmp 144)) (some 145)
  p7 : OpIs ops 7 (.move (.tmp 16)) (some 146)
  p8 : OpIs ops 8 (.move (.tmp 17)) (some 147)
  p9 : OpIs ops 9 (.binOp .neq 3 (.tmp 146) (.tmp 147) 3) (some 148)
  p10 : OpIs ops 10 (.binOp .neq 4 (.tmp 145) (.tmp 148) 4) (some 149)
structure R38 (ops : Array Oper) : Prop where
  s : ops.size = 1
  p0 : OpIs ops 0 (.assign (.const (.bool false))) (some 6)
structure R39 (ops : Array Oper) : Prop where
  s : ops.size = 3
  p0 : OpIs ops 0 (.move (.tmp 8)) (some 150)
  p1 : OpIs ops 1 (.binOp .gtr 3 (.tmp 150) (.const (.int .i64 0)) 3) (some 151)
  p2 : OpIs ops 2 (.assign (.tmp 151)) (some 6)
structure R17 (ops : Array Oper) : Prop where
  s : ops.size = 18
  p0 : DIs ops 0 (.move (.tmp 9)) (some 51) [] none
  p1 : DIs ops 1 (.move (.tmp 10)) (some 52) [] none
  p2 : DIs ops 2 (.indexAddr 42 (.tmp 51) (.tmp 52)) (some 53) [0, 1] none
  p3 : DIs ops 3 (.load 26 (.tmp 53)) (some 54) [2] none
  p4 : DIs ops 4 (.move (.tmp 11)) (some 55) [] none
  p5 : DIs ops 5 (.fieldAddr 28 (.tmp 7) 2) (some 56) [] none
  p6 : DIs ops 6 (.load 26 (.tmp 56)) (some 57) [5] none
  p7 : DIs ops 7 (.move (.tmp 10)) (some 58) [] none
  p8 : DIs ops 8 (.indexAddr 26 (.tmp 57) (.tmp 58)) (some 59) [6, 7] none
  p9 : DIs ops 9 (.load 4 (.tmp 59)) (some 60) [8] none
  p10 : DIs ops 10 (.fieldAddr 28 (.tmp 7) 2) (some 61) [] none
  p11 : DIs ops 11 (.load 26 (.tmp 61)) (some 62) [10] none
  p12 : DIs ops 12 (.move (.tmp 11)) (some 63) [] none
  p13 : DIs ops 13 (.indexAddr 26 (.tmp 62) (.tmp 63)) (some 64) [11, 12] none
  p14 : DIs ops 14 (.load 4 (.tmp 64)) (some 65) [13] none
  p15 : DIs ops 15 (.binOp .neq 4 (.tmp 60) (.tmp 65) 4) (some 66) [9, 14] none
  p16 : DIs ops 16 (.indexAddr 26 (.tmp 54) (.tmp 55)) (some 67) [3, 4] none
  p17 : DIs ops 17 (.store 4 (.tmp 67) (.tmp 66)) none [0, 1, 2, 3, 4, 5, 6, 7, 8, 9, 10, 11, 12, 13, 14, 15, 16] none
structure R30 (ops : Array Oper) : Prop where
  s : ops.size = 37
  p0 : DIs ops 0 (.move (.tmp 9)) (some 93) [] none
  p1 : DIs ops 1 (.move (.tmp 13)) (some 94) [] none
  p2 : DIs ops 2 (.indexAddr 42 (.tmp 93) (.tmp 94)) (some 95) [0, 1] none
  p3 : DIs ops 3 (.load 26 (.tmp 95)) (some 96) [2] none
  p4 : DIs ops 4 (.move (.tmp 14)) (some 97) [] none
  p5 : DIs ops 5 (.move (.tmp 9)) (some 98) [] none
  p6 : DIs ops 6 (.move (.tmp 13)) (some 99) [] none
  p7 : DIs ops 7 (.indexAddr 42 (.tmp 98) (.tmp 99)) (some 100) [5, 6] none
  p8 : DIs ops 8 (.load 26 (.tmp 100)) (some 101) [7] none
  p9 : DIs ops 9 (.move (.tmp 14)) (some 102) [] none
  p10 : DIs ops 10 (.indexAddr 26 (.tmp 101) (.tmp 102)) (some 103) [8, 9] none
  p11 : DIs ops 11 (.load 4 (.tmp 103)) (some 104) [10] none
  p12 : DIs ops 12 (.move (.tmp 104)) (some 105) [11] none
  p13 : DIs ops 13 (.move (.tmp 9)) (some 106) [12] (some (12, false))
  p14 : DIs ops 14 (.fieldAddr 28 (.tmp 7) 1) (some 107) [12] (some (12, false))
  p15 : DIs ops 15 (.load 25 (.tmp 107)) (some 108) [12, 14] (some (12, false))
  p16 : DIs ops 16 (.move (.tmp 13)) (some 109) [12] (some (12, false))
  p17 : DIs ops 17 (.indexAddr 25 (.tmp 108) (.tmp 109)) (some 110) [12, 15, 16] (some (12, false))
  p18 : DIs ops 18 (.load 33 (.tmp 110)) (some 111) [12, 17] (some (12, false))
  p19 : DIs ops 19 (.move (.tmp 15)) (some 112) [12] (some (12, false))
  p20 : DIs ops 20 (.indexAddr 33 (.tmp 111) (.tmp 112)) (some 113) [12, 18, 19] (some (12, false))
  p21 : DIs ops 21 (.load 3 (.tmp 113)) (some 114) [12, 20] (some (12, false))
  p22 : DIs ops 22 (.indexAddr 42 (.tmp 106) (.tmp 114)) (some 115) [12, 13, 21] (some (12, false))
  p23 : DIs ops 23 (.load 26 (.tmp 115)) (some 116) [12, 22] (some (12, false))
  p24 : DIs ops 24 (.fieldAddr 28 (.tmp 7) 1) (some 117) [12] (some (12, false))
  p25 : DIs ops 25 (.load 25 (.tmp 117)) (some 118) [12, 24] (some (12, false))
  p26 : DIs ops 26 (.move (.tmp 14)) (some 119) [12] (some (12, false))
  p27 : DIs ops 27 (.indexAddr 25 (.tmp 118) (.tmp 119)) (some 120) [12, 25, 26] (some (12, false))
  p28 : DIs ops 28 (.load 33 (.tmp 120)) (some 121) [12, 27] (some (12, false))
  p29 : DIs ops 29 (.move (.tmp 15)) (some 122) [12] (some (12, false))
  p30 : DIs ops 30 (.indexAddr 33 (.tmp 121) (.tmp 122)) (some 123) [12, 28, 29] (some (12, false))
  p31 : DIs ops 31 (.load 3 (.tmp 123)) (some 124) [12, 30] (some (12, false))
  p32 : DIs ops 32 (.indexAddr 26 (.tmp 116) (.tmp 124)) (some 125) [12, 23, 31] (some (12, false))
  p33 : DIs ops 33 (.load 4 (.tmp 125)) (some 126) [12, 32] (some (12, false))
  p34 : DIs ops 34 (.pick (.tmp 105) (.const (.bool true)) (.tmp 126)) (some 127) [12, 33] none
  p35 : DIs ops 35 (.indexAddr 26 (.tmp 96) (.tmp 97)) (some 128) [3, 4] none
  p36 : DIs ops 36 (.store 4 (.tmp 128) (.tmp 127)) none [0, 1, 2, 3, 4, 5, 6, 7, 8, 9, 10, 11, 12, 13, 14, 15, 16, 17, 18, 19, 20, 21, 22, 23, 24, 25, 26, 27, 28, 29, 30, 31, 32, 33, 34, 35] none
end Go.Ab
