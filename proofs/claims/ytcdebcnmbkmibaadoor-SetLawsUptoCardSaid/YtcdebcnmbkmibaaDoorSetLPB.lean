/- SetLPB: a part of the proofs of this seat's statements. -/
import Derived.Test.YtcdebcnmbkmibaaDoorSetLPA
/- How many bits are set: the sum in parallel, byte by byte. -/
namespace Go.Ab.T
open Go Go.Ab
set_option linter.unusedVariables false
set_option linter.unusedSimpArgs false

/-- a number, by its bytes -/
def ofB : List Nat → Nat
  | [] => 0
  | b :: r => b + 256 * ofB r
def isBy (l : List Nat) : Prop := ∀ b ∈ l, b < 256

theorem and_cons (b h c m : Nat) (hb : b < 256) (hc : c < 256) : (b + 256 * h) &&& (c + 256 * m) = (b &&& c) + 256 * (h &&& m) := by
  have e : (2 : Nat) ^ 8 = 256 := by decide
  have h1 := Nat.and_mod_two_pow (a := b + 256 * h) (b := c + 256 * m) (n := 8)
  have h2 := Nat.and_div_two_pow (a := b + 256 * h) (b := c + 256 * m) (n := 8)
  rw [e] at h1 h2
  have e1 : (b + 256 * h) % 256 = b := by omega
  have e2 : (c + 256 * m) % 256 = c := by omega
  have e3 : (b + 256 * h) / 256 = h := by omega
  have e4 : (c + 256 * m) / 256 = m := by omega
  rw [e1, e2] at h1
  rw [e3, e4] at h2
  have := Nat.div_add_mod ((b + 256 * h) &&& (c + 256 * m)) 256
  omega

theorem and_bytes : ∀ (l m : List Nat), isBy l → isBy m → l.length = m.length → ofB l &&& ofB m = ofB (List.zipWith (· &&& ·) l m)
  | [], [], _, _, _ => rfl
  | b :: l, c :: m, hl, hm, hh => by
    simp only [ofB, List.zipWith_cons_cons]
    rw [and_cons b _ c _ (hl b (by simp)) (hm c (by simp)), and_bytes l m (fun x hx => hl x (by simp [hx])) (fun x hx => hm x (by simp [hx])) (by simpa using hh)]

theorem bytes_of : ∀ (n x : Nat), x < 256 ^ n → ∃ l, l.length = n ∧ isBy l ∧ ofB l = x
  | 0, x, h => ⟨[], rfl, fun b hb => (nomatch hb), by rw [Nat.pow_zero] at h; show 0 = x; omega⟩
  | n + 1, x, h => by
    rw [Nat.pow_succ] at h
    obtain ⟨l, h1, h2, h3⟩ := bytes_of n (x / 256) (by omega)
    refine ⟨x % 256 :: l, by simp [h1], ?_, by simp only [ofB]; rw [h3]; omega⟩
    intro b hb
    rcases List.mem_cons.1 hb with rfl | hb
    · omega
    · exact h2 b hb

/-- shifted by j < 8 bits: what comes in from the byte above -/
def shrB (j : Nat) : List Nat → List Nat
  | [] => []
  | [b] => [b / 2 ^ j]
  | b :: c :: r => (b / 2 ^ j + c % 2 ^ j * 2 ^ (8 - j)) :: shrB j (c :: r)

theorem shr1_bytes : ∀ (l : List Nat), ofB l / 2 = ofB (shrB 1 l)
  | [] => rfl
  | [b] => by simp [ofB, shrB]
  | b :: c :: r => by
    have ih := shr1_bytes (c :: r)
    simp only [ofB, shrB] at ih ⊢
    rw [← ih]
    omega
theorem shr2_bytes : ∀ (l : List Nat), ofB l / 4 = ofB (shrB 2 l)
  | [] => rfl
  | [b] => by simp [ofB, shrB]
  | b :: c :: r => by
    have ih := shr2_bytes (c :: r)
    simp only [ofB, shrB] at ih ⊢
    rw [← ih]
    omega
theorem shr4_bytes : ∀ (l : List Nat), ofB l / 16 = ofB (shrB 4 l)
  | [] => rfl
  | [b] => by simp [ofB, shrB]
  | b :: c :: r => by
    have ih := shr4_bytes (c :: r)
    simp only [ofB, shrB] at ih ⊢
    rw [← ih]
    omega

/-! ### one byte's own sum -/
def pc (b : Nat) : Nat := (List.range 8).countP fun j => b.testBit j
def s1 (b : Nat) : Nat := (b / 2 &&& 85) + (b &&& 85)
def s2 (b : Nat) : Nat := (b / 4 &&& 51) + (b &&& 51)
def s3 (b : Nat) : Nat := (b / 16 + b) &&& 15

theorem s1_in : ∀ b : Nat, b < 256 → ∀ c : Nat, c < 2 → ((b / 2 + c * 128) &&& 85) = (b / 2 &&& 85) := by decide +kernel
theorem s2_in : ∀ b : Nat, b < 256 → ∀ c : Nat, c < 4 → ((b / 4 + c * 64) &&& 51) = (b / 4 &&& 51) := by decide +kernel
theorem pc_all : ∀ b : Nat, b < 256 → s3 (s2 (s1 b)) = pc b ∧ s1 b < 256 ∧ s2 (s1 b) < 256 ∧ (s2 (s1 b)) % 16 + s2 (s1 b) / 16 ≤ 8 ∧ s2 (s1 b) % 16 ≤ 4 ∧ s2 (s1 b) / 16 ≤ 4 ∧ pc b ≤ 8 := by decide +kernel

theorem s3_in : ∀ b : Nat, b < 128 → ∀ c : Nat, c < 5 → ((b / 16 + b + c * 16) &&& 15) = s3 b := by decide +kernel

theorem half (b h : Nat) (hb : b < 256) : (b + 256 * h) / 2 = (b / 2 + h % 2 * 128) + 256 * (h / 2) := by omega
theorem quart (b h : Nat) (hb : b < 256) : (b + 256 * h) / 4 = (b / 4 + h % 4 * 64) + 256 * (h / 4) := by omega
theorem sixt (b h : Nat) (hb : b < 256) : (b + 256 * h) / 16 = (b / 16 + h % 16 * 16) + 256 * (h / 16) := by omega

theorem step1 : ∀ l : List Nat, isBy l → (ofB l / 2 &&& ofB (l.map fun _ => 85)) + (ofB l &&& ofB (l.map fun _ => 85)) = ofB (l.map s1)
  | [], _ => rfl
  | b :: r, h => by
    have hb := h b (by simp)
    have ih := step1 r fun x hx => h x (by simp [hx])
    simp only [List.map_cons, ofB]
    rw [half b _ hb, and_cons _ _ _ _ (by omega) (by omega), and_cons _ _ _ _ hb (by omega), s1_in b hb _ (by omega), ← ih]
    unfold s1
    omega
theorem step2 : ∀ l : List Nat, isBy l → (ofB l / 4 &&& ofB (l.map fun _ => 51)) + (ofB l &&& ofB (l.map fun _ => 51)) = ofB (l.map s2)
  | [], _ => rfl
  | b :: r, h => by
    have hb := h b (by simp)
    have ih := step2 r fun x hx => h x (by simp [hx])
    simp only [List.map_cons, ofB]
    rw [quart b _ hb, and_cons _ _ _ _ (by omega) (by omega), and_cons _ _ _ _ hb (by omega), s2_in b hb _ (by omega), ← ih]
    unfold s2
    omega
theorem ofB_mod16 (l : List Nat) (h : ∀ b ∈ l, b % 16 ≤ 4) : ofB l % 16 ≤ 4 := by
  cases l with
  | nil => exact Nat.zero_le _
  | cons b r => have := h b (by simp); simp only [ofB]; omega
theorem step3 : ∀ l : List Nat, (∀ b ∈ l, b % 16 ≤ 4 ∧ b / 16 ≤ 4) → ((ofB l / 16 + ofB l) &&& ofB (l.map fun _ => 15)) = ofB (l.map s3)
  | [], _ => rfl
  | b :: r, h => by
    have hb := h b (by simp)
    have ih := step3 r fun x hx => h x (by simp [hx])
    have hm := ofB_mod16 r fun x hx => (h x (by simp [hx])).1
    simp only [List.map_cons, ofB]
    have e : (b + 256 * ofB r) / 16 + (b + 256 * ofB r) = (b / 16 + b + ofB r % 16 * 16) + 256 * (ofB r / 16 + ofB r) := by omega
    rw [e, and_cons _ _ _ _ (by omega) (by omega), s3_in b (by omega) _ (by omega), ih]

end Go.Ab.T

/- The last sums of the count of bits. -/
namespace Go.Ab.T
open Go Go.Ab
set_option linter.unusedVariables false
set_option linter.unusedSimpArgs false

theorem cut256 (p q x : Nat) (hp : p < 256) (hx : x = p + 256 * q) : x / 256 = q := by omega
theorem cut64k (a b u y : Nat) (ha : a < 256) (hb : b < 256) (hy : y = a + 256 * b + 65536 * u) : y / 65536 = u := by omega
theorem cut4g (a b c d t z : Nat) (ha : a < 256) (hb : b < 256) (hc : c < 256) (hd : d < 256) (hz : z = a + 256 * b + 65536 * c + 16777216 * d + 4294967296 * t) : z / 4294967296 = t := by omega
theorem lin_y (p0 p1 p2 p3 p4 p5 p6 p7 x y q u : Nat) (hx : x = p0 + 256 * q) (hq : q = p1 + 256 * (p2 + 256 * (p3 + 256 * (p4 + 256 * (p5 + 256 * (p6 + 256 * p7))))))
    (hu : u = (p2 + p3) + 256 * ((p3 + p4) + 256 * ((p4 + p5) + 256 * ((p5 + p6) + 256 * ((p6 + p7) + 256 * p7))))) (hy : y = x + q) : y = (p0 + p1) + 256 * (p1 + p2) + 65536 * u := by
  subst hu hy hx hq; omega
theorem lin_z (p0 p1 p2 p3 p4 p5 p6 p7 y z u t : Nat) (hy : y = (p0 + p1) + 256 * (p1 + p2) + 65536 * u)
    (hu : u = (p2 + p3) + 256 * ((p3 + p4) + 256 * ((p4 + p5) + 256 * ((p5 + p6) + 256 * ((p6 + p7) + 256 * p7)))))
    (ht : t = (p4 + p5 + p6 + p7) + 256 * ((p5 + p6 + p7) + 256 * ((p6 + p7) + 256 * p7))) (hz : z = y + u) :
    z = (p0 + p1 + p2 + p3) + 256 * (p1 + p2 + p3 + p4) + 65536 * (p2 + p3 + p4 + p5) + 16777216 * (p3 + p4 + p5 + p6) + 4294967296 * t := by
  subst ht hz hy hu; omega
theorem lin_f (a b c d e f t z : Nat) (hz : z = a + 256 * b + 65536 * c + 16777216 * d + 4294967296 * t) (ht : t = e + 256 * f) (hs : a + e < 128) : (z + t) % 128 = a + e := by omega

theorem bnd_q (p1 p2 p3 p4 p5 p6 p7 q : Nat) (h1 : p1 ≤ 8) (h2 : p2 ≤ 8) (h3 : p3 ≤ 8) (h4 : p4 ≤ 8) (h5 : p5 ≤ 8) (h6 : p6 ≤ 8) (h7 : p7 ≤ 8) (hq : q = p1 + 256 * (p2 + 256 * (p3 + 256 * (p4 + 256 * (p5 + 256 * (p6 + 256 * p7)))))) : q < 2533274790395905 := by omega
theorem bnd_u (p2 p3 p4 p5 p6 p7 u : Nat) (h2 : p2 ≤ 8) (h3 : p3 ≤ 8) (h4 : p4 ≤ 8) (h5 : p5 ≤ 8) (h6 : p6 ≤ 8) (h7 : p7 ≤ 8) (hu : u = (p2 + p3) + 256 * ((p3 + p4) + 256 * ((p4 + p5) + 256 * ((p5 + p6) + 256 * ((p6 + p7) + 256 * p7))))) : u < 20000000000000 := by omega
theorem bnd_x (p0 q x : Nat) (h0 : p0 ≤ 8) (hx : x = p0 + 256 * q) (hq : q < 2533274790395905) : x < 700000000000000000 := by omega
theorem bnd_y (x q y : Nat) (hx : x < 700000000000000000) (hq : q < 2533274790395905) (hy : y = x + q) : y < 2000000000000000000 := by omega
theorem bnd_z (y u z : Nat) (hx : y < 2000000000000000000) (hq : u < 20000000000000) (hy : z = y + u) : z < 4000000000000000000 := by omega

/-- the sum of eight small bytes, and that nothing overflows on the way -/
theorem sum8' (p0 p1 p2 p3 p4 p5 p6 p7 : Nat) (h0 : p0 ≤ 8) (h1 : p1 ≤ 8) (h2 : p2 ≤ 8) (h3 : p3 ≤ 8) (h4 : p4 ≤ 8) (h5 : p5 ≤ 8) (h6 : p6 ≤ 8) (h7 : p7 ≤ 8) (x y z q u t : Nat)
    (hq : q = p1 + 256 * (p2 + 256 * (p3 + 256 * (p4 + 256 * (p5 + 256 * (p6 + 256 * p7))))))
    (hu : u = (p2 + p3) + 256 * ((p3 + p4) + 256 * ((p4 + p5) + 256 * ((p5 + p6) + 256 * ((p6 + p7) + 256 * p7)))))
    (ht : t = (p4 + p5 + p6 + p7) + 256 * ((p5 + p6 + p7) + 256 * ((p6 + p7) + 256 * p7)))
    (hx : x = p0 + 256 * q) (hy : y = x + x / 256) (hz : z = y + y / 65536) :
    x < 700000000000000000 ∧ y < 2000000000000000000 ∧ z < 4000000000000000000 ∧ (z + z / 4294967296) % 128 = (p0 + p1 + p2 + p3) + (p4 + p5 + p6 + p7) := by
  have e1 := cut256 p0 q x (Nat.lt_of_le_of_lt h0 (by decide)) hx
  rw [e1] at hy
  have hy' := lin_y p0 p1 p2 p3 p4 p5 p6 p7 x y q u hx hq hu hy
  have b01 : p0 + p1 < 256 := by clear hq hu ht hx hy hz hy' e1; omega
  have b12 : p1 + p2 < 256 := by clear hq hu ht hx hy hz hy' e1; omega
  have e2 := cut64k _ _ u y b01 b12 hy'
  rw [e2] at hz
  have hz' := lin_z p0 p1 p2 p3 p4 p5 p6 p7 y z u t hy' hu ht hz
  have c1 : p0 + p1 + p2 + p3 < 256 := by clear hq hu ht hx hy hz hy' e1 e2 hz'; omega
  have c2 : p1 + p2 + p3 + p4 < 256 := by clear hq hu ht hx hy hz hy' e1 e2 hz'; omega
  have c3 : p2 + p3 + p4 + p5 < 256 := by clear hq hu ht hx hy hz hy' e1 e2 hz'; omega
  have c4 : p3 + p4 + p5 + p6 < 256 := by clear hq hu ht hx hy hz hy' e1 e2 hz'; omega
  have c5 : p0 + p1 + p2 + p3 + (p4 + p5 + p6 + p7) < 128 := by clear hq hu ht hx hy hz hy' e1 e2 hz'; omega
  have e3 := cut4g _ _ _ _ t z c1 c2 c3 c4 hz'
  have hf := lin_f _ _ _ _ _ _ t z hz' ht c5
  have bq := bnd_q p1 p2 p3 p4 p5 p6 p7 q h1 h2 h3 h4 h5 h6 h7 hq
  have bu := bnd_u p2 p3 p4 p5 p6 p7 u h2 h3 h4 h5 h6 h7 hu
  have bx := bnd_x p0 q x h0 hx bq
  have bY := bnd_y x q y bx bq hy
  have bz := bnd_z y u z bY bu hz
  exact ⟨bx, bY, bz, by rw [e3]; exact hf⟩

theorem pc_bits (b : Nat) (hb : b < 256) : pc b ≤ 8 := (pc_all b hb).2.2.2.2.2.2

/-- the bits of a number, byte by byte -/
theorem cnt_bytes : ∀ l : List Nat, isBy l → (List.range (8 * l.length)).countP (fun j => (ofB l).testBit j) = (l.map pc).sum
  | [], _ => rfl
  | b :: r, h => by
    have hb := h b (by simp)
    have ih := cnt_bytes r fun x hx => h x (by simp [hx])
    have e : 8 * (b :: r).length = 8 + 8 * r.length := by simp; omega
    rw [e, List.range_add, List.countP_append, List.countP_map, List.map_cons, List.sum_cons, ← ih]
    have key : ∀ j, (ofB (b :: r)).testBit j = if j < 8 then b.testBit j else (ofB r).testBit (j - 8) := by
      intro j
      have : ofB (b :: r) = 2 ^ 8 * ofB r + b := by simp only [ofB]; omega
      rw [this, Nat.testBit_two_pow_mul_add _ (by omega)]
    congr 1
    · unfold pc
      apply List.countP_congr
      intro j hj
      rw [key, if_pos (List.mem_range.1 hj)]
    · apply List.countP_congr
      intro j hj
      simp only [Function.comp]
      rw [key, if_neg (by omega)]
      have : 8 + j - 8 = j := by omega
      rw [this]
end Go.Ab.T

/- How many bits a word has; how many bytes a set has. -/
namespace Go.Ab.T
open Go Go.Ab
set_option linter.unusedVariables false
set_option linter.unusedSimpArgs false

theorem andN (a b : Nat) (ha : a < 2 ^ 64) (hb : b < 2 ^ 64) : bvop .u64 .and (a : Int) (b : Int) = ((a &&& b : Nat) : Int) := by
  rw [and_eq _ _ (isW_nat ha) (isW_nat hb), Int.toNat_natCast, Int.toNat_natCast]
theorem shrN (a j : Nat) (ha : a < 2 ^ 64) (hj : j ≤ 64) : shr .u64 (a : Int) (j : Int) = ((a / 2 ^ j : Nat) : Int) := by
  rw [shr_eq _ j hj (isW_nat ha), Int.toNat_natCast]
theorem wrapA (a b : Nat) (h : a + b < 2 ^ 64) : IntKind.u64.wrap ((a : Int) + (b : Int)) = ((a + b : Nat) : Int) := by
  have := wrapN (a + b) h
  rw [Int.natCast_add] at this
  rw [this, Int.natCast_add]

theorem ofB_lt : ∀ l : List Nat, isBy l → ofB l < 256 ^ l.length
  | [], _ => by decide
  | b :: r, h => by
    have hb := h b (by simp)
    have ih := ofB_lt r fun x hx => h x (by simp [hx])
    simp only [ofB, List.length_cons]
    rw [Nat.pow_succ]
    omega
theorem lt8 {l : List Nat} (h : isBy l) (hl : l.length = 8) : ofB l < 2 ^ 64 := by
  have := ofB_lt l h
  rw [hl] at this
  have e : 256 ^ 8 = 2 ^ 64 := by decide
  rw [← e]; exact this
theorem isBy_map (f : Nat → Nat) {l : List Nat} (h : ∀ b ∈ l, f b < 256) : isBy (l.map f) := by
  intro x hx
  rw [List.mem_map] at hx
  obtain ⟨b, hb, rfl⟩ := hx
  exact h b hb

theorem m85 (l : List Nat) (hl : l.length = 8) : ofB (l.map fun _ => 85) = 6148914691236517205 := by
  match l, hl with
  | [_, _, _, _, _, _, _, _], _ => simp only [List.map_cons, List.map_nil, ofB]
theorem m51 (l : List Nat) (hl : l.length = 8) : ofB (l.map fun _ => 51) = 3689348814741910323 := by
  match l, hl with
  | [_, _, _, _, _, _, _, _], _ => simp only [List.map_cons, List.map_nil, ofB]
theorem m15 (l : List Nat) (hl : l.length = 8) : ofB (l.map fun _ => 15) = 1085102592571150095 := by
  match l, hl with
  | [_, _, _, _, _, _, _, _], _ => simp only [List.map_cons, List.map_nil, ofB]
theorem w85 : (6148914691236517205 : Nat) < 2 ^ 64 := by decide
theorem w51 : (3689348814741910323 : Nat) < 2 ^ 64 := by decide
theorem w15 : (1085102592571150095 : Nat) < 2 ^ 64 := by decide

theorem st1 (l : List Nat) (hl : l.length = 8) (h : isBy l) :
    IntKind.u64.wrap ((bvop .u64 .and (shr .u64 (ofB l : Int) 1) 6148914691236517205) + (bvop .u64 .and (ofB l : Int) 6148914691236517205)) = (ofB (l.map s1) : Int) := by
  have hlt := lt8 h hl
  have h1 := shrN (ofB l) 1 hlt (by omega)
  have h2 := andN (ofB l / 2 ^ 1) 6148914691236517205 (Nat.lt_of_le_of_lt (Nat.div_le_self _ _) hlt) w85
  have h3 := andN (ofB l) 6148914691236517205 hlt w85
  have e := step1 l h
  rw [m85 l hl] at e
  have hr : ofB (l.map s1) < 2 ^ 64 := lt8 (isBy_map _ fun b hb => (pc_all b (h b hb)).2.1) (by simp [hl])
  have p1 : (2 : Nat) ^ 1 = 2 := rfl
  rw [p1] at h1 h2
  have h1' : shr .u64 (ofB l : Int) 1 = ((ofB l / 2 : Nat) : Int) := h1
  have h2' : bvop .u64 .and ((ofB l / 2 : Nat) : Int) 6148914691236517205 = ((ofB l / 2 &&& 6148914691236517205 : Nat) : Int) := h2
  have h3' : bvop .u64 .and (ofB l : Int) 6148914691236517205 = ((ofB l &&& 6148914691236517205 : Nat) : Int) := h3
  rw [h1', h2', h3', wrapA _ _ (by rw [e]; exact hr), e]

theorem st2 (l : List Nat) (hl : l.length = 8) (h : isBy l) (h2 : ∀ b ∈ l, s2 b < 256) :
    IntKind.u64.wrap ((bvop .u64 .and (shr .u64 (ofB l : Int) 2) 3689348814741910323) + (bvop .u64 .and (ofB l : Int) 3689348814741910323)) = (ofB (l.map s2) : Int) := by
  have hlt := lt8 h hl
  have h1 := shrN (ofB l) 2 hlt (by omega)
  have hh2 := andN (ofB l / 2 ^ 2) 3689348814741910323 (Nat.lt_of_le_of_lt (Nat.div_le_self _ _) hlt) w51
  have h3 := andN (ofB l) 3689348814741910323 hlt w51
  have e := step2 l h
  rw [m51 l hl] at e
  have hr : ofB (l.map s2) < 2 ^ 64 := lt8 (isBy_map _ h2) (by simp [hl])
  have p1 : (2 : Nat) ^ 2 = 4 := rfl
  rw [p1] at h1 hh2
  have h1' : shr .u64 (ofB l : Int) 2 = ((ofB l / 4 : Nat) : Int) := h1
  have h2' : bvop .u64 .and ((ofB l / 4 : Nat) : Int) 3689348814741910323 = ((ofB l / 4 &&& 3689348814741910323 : Nat) : Int) := hh2
  have h3' : bvop .u64 .and (ofB l : Int) 3689348814741910323 = ((ofB l &&& 3689348814741910323 : Nat) : Int) := h3
  rw [h1', h2', h3', wrapA _ _ (by rw [e]; exact hr), e]

theorem ofB_le68 : ∀ l : List Nat, (∀ b ∈ l, b ≤ 68) → ofB l ≤ 68 * ofB (l.map fun _ => 1)
  | [], _ => by decide
  | b :: r, h => by
    have hb := h b (by simp)
    have ih := ofB_le68 r fun x hx => h x (by simp [hx])
    simp only [ofB, List.map_cons]
    omega
theorem st3 (l : List Nat) (hl : l.length = 8) (h : ∀ b ∈ l, b % 16 ≤ 4 ∧ b / 16 ≤ 4) :
    bvop .u64 .and (IntKind.u64.wrap ((shr .u64 (ofB l : Int) 4) + (ofB l : Int))) 1085102592571150095 = (ofB (l.map s3) : Int) := by
  have hb : isBy l := fun b hb => by have := h b hb; omega
  have hlt := lt8 hb hl
  have h1 := shrN (ofB l) 4 hlt (by omega)
  have p1 : (2 : Nat) ^ 4 = 16 := rfl
  rw [p1] at h1
  have h1' : shr .u64 (ofB l : Int) 4 = ((ofB l / 16 : Nat) : Int) := h1
  have hle := ofB_le68 l fun b hb => by have := h b hb; omega
  have e1 : ofB (l.map fun _ => 1) = 72340172838076673 := by
    match l, hl with
    | [_, _, _, _, _, _, _, _], _ => simp only [List.map_cons, List.map_nil, ofB]
  rw [e1] at hle
  have hs : ofB l / 16 + ofB l < 2 ^ 64 := by rw [p64]; omega
  have e := step3 l h
  rw [m15 l hl] at e
  have h3 := andN (ofB l / 16 + ofB l) 1085102592571150095 hs w15
  have h3' : bvop .u64 .and ((ofB l / 16 + ofB l : Nat) : Int) 1085102592571150095 = ((ofB l / 16 + ofB l &&& 1085102592571150095 : Nat) : Int) := h3
  rw [h1', wrapA _ _ hs, h3', e]

/-- the last three sums -/
theorem st456 {R : Type} (l : List Nat) (hl : l.length = 8) (h : ∀ b ∈ l, b ≤ 8) (v4 : Int) (hv : v4 = (ofB l : Int)) (K : Int → Option R) :
    (let v5 : Int := (IntKind.u64.wrap ((IntKind.u64.wrap (v4 + (shr .u64 v4 8))) + (shr .u64 (IntKind.u64.wrap (v4 + (shr .u64 v4 8))) 16)))
    let v6 : Int := (bvop .i64 .and (IntKind.i64.wrap (IntKind.u64.wrap (v5 + (shr .u64 v5 32)))) 127)
    K v6) = K (l.sum : Int) := by
  match l, hl with
  | [p0, p1, p2, p3, p4, p5, p6, p7], _ =>
    obtain ⟨x, hx0⟩ : ∃ x, x = ofB [p0, p1, p2, p3, p4, p5, p6, p7] := ⟨_, rfl⟩
    obtain ⟨q, hq0⟩ : ∃ q, q = ofB [p1, p2, p3, p4, p5, p6, p7] := ⟨_, rfl⟩
    obtain ⟨u, hu0⟩ : ∃ u, u = ofB [p2 + p3, p3 + p4, p4 + p5, p5 + p6, p6 + p7, p7] := ⟨_, rfl⟩
    obtain ⟨t, ht0⟩ : ∃ t, t = ofB [p4 + p5 + p6 + p7, p5 + p6 + p7, p6 + p7, p7] := ⟨_, rfl⟩
    have hx : x = p0 + 256 * q := by rw [hx0, hq0]; rfl
    have hq : q = p1 + 256 * (p2 + 256 * (p3 + 256 * (p4 + 256 * (p5 + 256 * (p6 + 256 * p7))))) := by rw [hq0]; simp only [ofB, Nat.mul_zero, Nat.add_zero]
    have hu : u = (p2 + p3) + 256 * ((p3 + p4) + 256 * ((p4 + p5) + 256 * ((p5 + p6) + 256 * ((p6 + p7) + 256 * p7)))) := by rw [hu0]; simp only [ofB, Nat.mul_zero, Nat.add_zero]
    have ht : t = (p4 + p5 + p6 + p7) + 256 * ((p5 + p6 + p7) + 256 * ((p6 + p7) + 256 * p7)) := by rw [ht0]; simp only [ofB, Nat.mul_zero, Nat.add_zero]
    rw [← hx0] at hv
    obtain ⟨y, hy⟩ : ∃ y, y = x + x / 256 := ⟨_, rfl⟩
    obtain ⟨z, hz⟩ : ∃ z, z = y + y / 65536 := ⟨_, rfl⟩
    obtain ⟨b1, b2, b3, b4⟩ := sum8' p0 p1 p2 p3 p4 p5 p6 p7 (h _ (by simp)) (h _ (by simp)) (h _ (by simp)) (h _ (by simp)) (h _ (by simp)) (h _ (by simp)) (h _ (by simp)) (h _ (by simp)) x y z q u t hq hu ht hx hy hz
    clear hq hu ht hx hq0 hu0 ht0 hx0
    subst hv
    have x1 : shr .u64 (x : Int) 8 = ((x / 256 : Nat) : Int) := shrN x 8 (by rw [p64]; omega) (by omega)
    have x2 : IntKind.u64.wrap ((x : Int) + ((x / 256 : Nat) : Int)) = (y : Int) := by rw [wrapA _ _ (by rw [p64]; omega), hy]
    have y1 : shr .u64 (y : Int) 16 = ((y / 65536 : Nat) : Int) := shrN y 16 (by rw [p64]; omega) (by omega)
    have y2 : IntKind.u64.wrap ((y : Int) + ((y / 65536 : Nat) : Int)) = (z : Int) := by rw [wrapA _ _ (by rw [p64]; omega), hz]
    have z1 : shr .u64 (z : Int) 32 = ((z / 4294967296 : Nat) : Int) := shrN z 32 (by rw [p64]; omega) (by omega)
    have z2 : IntKind.u64.wrap ((z : Int) + ((z / 4294967296 : Nat) : Int)) = ((z + z / 4294967296 : Nat) : Int) := wrapA _ _ (by rw [p64]; omega)
    have z3 : IntKind.i64.wrap ((z + z / 4294967296 : Nat) : Int) = ((z + z / 4294967296 : Nat) : Int) := by rw [IntKind.wrap_i64]; omega
    have z4 : bvop .i64 .and ((z + z / 4294967296 : Nat) : Int) 127 = (((z + z / 4294967296) % 128 : Nat) : Int) := by
      have hlt : z + z / 4294967296 < 2 ^ 63 := by have e : (2 : Nat) ^ 63 = 9223372036854775808 := by decide
                                                   rw [e]; omega
      generalize z + z / 4294967296 = w at hlt
      unfold bvop
      simp only [wall_eq]
      have e1 : (BitVec.ofInt IntKind.i64.bits (w : Int) &&& BitVec.ofInt IntKind.i64.bits 127).toNat = w % 128 := by
        rw [BitVec.toNat_and]
        have a1 : (BitVec.ofInt IntKind.i64.bits (w : Int)).toNat = w := by
          simp only [BitVec.ofInt_natCast, BitVec.toNat_ofNat]
          exact Nat.mod_eq_of_lt (Nat.lt_of_lt_of_le hlt (by decide))
        have a2 : (BitVec.ofInt IntKind.i64.bits 127).toNat = 2 ^ 7 - 1 := by decide
        rw [a1, a2, Nat.and_two_pow_sub_one_eq_mod]
      rw [e1, IntKind.wrap_i64]
      omega
    simp only [x1, x2, y1, y2, z1, z2, z3, z4]
    rw [b4]
    congr 2
    simp only [List.sum_cons, List.sum_nil]
    omega

/-- how many bits a word has -/
def cnt (x : Int) : Nat := (List.range 64).countP fun j => bit x j

theorem ones_ok {R : Type} (x : Int) (hx : isW x) (K : Int → Option R) : math_bits_OnesCount64 x K = K (cnt x : Int) := by
  obtain ⟨l, hl, hb, he⟩ := bytes_of 8 x.toNat (by have := isW_lt hx; have e : 256 ^ 8 = 2 ^ 64 := by decide
                                                   rw [e]; exact this)
  have hxe : x = (ofB l : Int) := by rw [he]; have := hx.1; omega
  have hcnt : cnt x = ((((l.map s1).map s2).map s3)).sum := by
    have e2 : ((l.map s1).map s2).map s3 = l.map pc := by
      rw [List.map_map, List.map_map]
      apply List.map_congr_left
      intro b hb'
      exact (pc_all b (hb b hb')).1
    rw [e2, ← cnt_bytes l hb]
    unfold cnt bit
    rw [← he, hl]
  unfold math_bits_OnesCount64 math_bits_OnesCount64_b
  rw [hxe]
  have q1 := st1 l hl hb
  have q2 := st2 (l.map s1) (by simp [hl]) (isBy_map _ fun b hb' => (pc_all b (hb b hb')).2.1) (by
    intro b hb'
    rw [List.mem_map] at hb'
    obtain ⟨c, hc, rfl⟩ := hb'
    exact (pc_all c (hb c hc)).2.2.1)
  have q3 := st3 ((l.map s1).map s2) (by simp [hl]) (by
    intro b hb'
    rw [List.map_map, List.mem_map] at hb'
    obtain ⟨c, hc, rfl⟩ := hb'
    exact ⟨(pc_all c (hb c hc)).2.2.2.2.1, (pc_all c (hb c hc)).2.2.2.2.2.1⟩)
  have q4 := st456 (((l.map s1).map s2).map s3) (by simp [hl]) (by
    intro b hb'
    rw [List.map_map, List.map_map, List.mem_map] at hb'
    obtain ⟨c, hc, rfl⟩ := hb'
    show s3 (s2 (s1 c)) ≤ 8
    rw [(pc_all c (hb c hc)).1]
    exact pc_bits c (hb c hc)) _ rfl K
  rw [q1]
  simp only [q2]
  simp only [q3]
  rw [q4, ← hxe, hcnt]

theorem cnt_le (x : Int) : cnt x ≤ 64 := by
  unfold cnt
  have := List.countP_le_length (p := fun j => bit x j) (l := List.range 64)
  simpa using this

theorem elems_length (s : List Int) (c m : Nat) : (elems s c m).length = (List.range' c m).countP fun b => mem s b := by
  unfold elems
  rw [List.length_map, List.countP_eq_length_filter]

theorem cnt_word (s : List Int) (i : Nat) : (List.range' (64 * i) 64).countP (fun b => mem s b) = cnt (s.getD i 0) := by
  unfold cnt
  rw [List.range'_eq_map_range, List.countP_map]
  apply List.countP_congr
  intro j hj
  have hj := List.mem_range.1 hj
  unfold mem
  simp only [Function.comp]
  rw [show (64 * i + j) / 64 = i by omega, show (64 * i + j) % 64 = j by omega]

theorem elems_cnt (s : List Int) : (elems s 0 256).length = cnt (s.getD 0 0) + (cnt (s.getD 1 0) + (cnt (s.getD 2 0) + cnt (s.getD 3 0))) := by
  rw [elems_length]
  have e : List.range' 0 256 = List.range' (64 * 0) 64 ++ (List.range' (64 * 1) 64 ++ (List.range' (64 * 2) 64 ++ List.range' (64 * 3) 64)) := by decide +kernel
  rw [e, List.countP_append, List.countP_append, List.countP_append, cnt_word, cnt_word, cnt_word, cnt_word]

noncomputable def lenStep {R : Type} (x : Int) (acc : Int) (rest : Int → Option R) : Option R := math_bits_OnesCount64 x fun v => rest (IntKind.i64.wrap (acc + v))
theorem len_rfl {R : Type} (k : Nat) (a0 a1 a2 a3 : Int) (K : Int → Option R) :
    byteset_Len (k + 5) [a0, a1, a2, a3] K = lenStep a0 0 fun r0 => lenStep a1 r0 fun r1 => lenStep a2 r1 fun r2 => lenStep a3 r2 K := rfl

theorem len_ok {R : Type} (kf : Nat) (hkf : 5 ≤ kf) {s : List Int} (hs : isSet s) (K : Int → Option R) : byteset_Len kf s K = K ((elems s 0 256).length : Int) := by
  obtain ⟨a0, a1, a2, a3, rfl, h0, h1, h2, h3⟩ := four hs
  obtain ⟨k, rfl⟩ : ∃ k, kf = k + 5 := ⟨kf - 5, by omega⟩
  rw [len_rfl, elems_cnt]
  unfold lenStep
  simp only [ones_ok a0 h0, ones_ok a1 h1, ones_ok a2 h2, ones_ok a3 h3]
  have := cnt_le a0; have := cnt_le a1; have := cnt_le a2; have := cnt_le a3
  congr 1
  simp only [List.getD_cons_zero, List.getD_cons_succ, IntKind.wrap_i64]
  omega
end Go.Ab.T
