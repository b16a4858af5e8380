/-
  How many bits are set: the library's reckoning, and the plain one.
-/
import Derived.Test.YtmpdpjpebekfkaaDoorFnA
set_option linter.unusedVariables false
set_option linter.unusedSimpArgs false
set_option maxRecDepth 100000
set_option maxHeartbeats 1600000
namespace Go.AM
open Go.Proofs
/-- How many bits of a number are set. -/
def popc (n : Nat) : Nat := if h : n = 0 then 0 else n % 2 + popc (n / 2)
termination_by n
decreasing_by omega
theorem popc_zero : popc 0 = 0 := by rw [popc]; simp
theorem popc_step (n : Nat) : popc n = n % 2 + popc (n / 2) := by
  rw [popc]
  split
  · rename_i h; subst h; simp [popc_zero]
  · rfl
theorem popc_le (n : Nat) : popc n ≤ n := by
  induction n using Nat.strongRecOn with
  | _ n ih =>
    by_cases h : n = 0
    · subst h; rw [popc_zero]; omega
    · have := ih (n / 2) (by omega)
      rw [popc_step]; omega
theorem popc_byte (a y : Nat) (h : a < 256) : popc (a + 256 * y) = popc a + popc y := by
  have s1 : ∀ k : Nat, ∀ a y : Nat, a < 2 ^ k → popc (a + 2 ^ k * y) = popc a + popc y := by
    intro k
    induction k with
    | zero => intro a y h; have : a = 0 := by simpa using h
              subst this; simp [popc_zero]
    | succ k ih =>
      intro a y h
      rw [Nat.pow_succ] at h ⊢
      rw [popc_step, popc_step a]
      have h1 : (a + 2 ^ k * 2 * y) % 2 = a % 2 := by
        rw [Nat.mul_comm (2 ^ k) 2, Nat.mul_assoc]; omega
      have h2 : (a + 2 ^ k * 2 * y) / 2 = a / 2 + 2 ^ k * y := by
        rw [Nat.mul_comm (2 ^ k) 2, Nat.mul_assoc]; omega
      rw [h1, h2, ih (a / 2) y (by omega)]
      omega
  exact s1 8 a y h
/-! The library's way. -/
def p1 (m x : Nat) : Nat := ((x / 2) &&& m) + (x &&& m)
def p2 (m x : Nat) : Nat := ((x / 4) &&& m) + (x &&& m)
def p3 (m x : Nat) : Nat := (x / 16 + x) &&& m
theorem and_byte (a y c d : Nat) (ha : a < 256) (hc : c < 256) : (a + 256 * y) &&& (c + 256 * d) = (a &&& c) + 256 * (y &&& d) := by
  have e : ∀ (a y : Nat), a < 256 → a + 256 * y = 2 ^ 8 * y + a := by intro a y _; omega
  have hac : a &&& c < 256 := Nat.lt_of_le_of_lt Nat.and_le_left ha
  rw [e a y ha, e c d hc, e _ _ hac]
  apply Nat.eq_of_testBit_eq
  intro i
  simp only [Nat.testBit_and]
  rw [Nat.testBit_two_pow_mul_add _ ha, Nat.testBit_two_pow_mul_add _ hc, Nat.testBit_two_pow_mul_add _ hac]
  split <;> simp
/-- What the first two steps make of a byte. -/
def nib (a : Nat) : Nat := p2 51 (p1 85 a)
def popB (a : Nat) : Nat := a % 2 + a / 2 % 2 + a / 4 % 2 + a / 8 % 2 + a / 16 % 2 + a / 32 % 2 + a / 64 % 2 + a / 128 % 2
theorem tab1 : ((List.range 256).all fun a => (List.range 2).all fun c => ((a / 2 + 128 * c) &&& 85) == ((a / 2) &&& 85)) = true := by decide +kernel
theorem tab2 : ((List.range 256).all fun a => (List.range 4).all fun c => ((a / 4 + 64 * c) &&& 51) == ((a / 4) &&& 51)) = true := by decide +kernel
theorem tab3 : ((List.range 256).all fun a => (List.range 5).all fun c => decide (nib a / 16 + 16 * c + nib a < 256) && ((nib a / 16 + 16 * c + nib a) &&& 15) == popB a) = true := by decide +kernel
theorem tab4 : ((List.range 256).all fun a => decide (nib a < 256) && decide (nib a % 16 ≤ 4) && decide (p1 85 a < 256) && decide (popB a ≤ 8)) = true := by decide +kernel
theorem popB_eq (a : Nat) (h : a < 256) : popB a = popc a := by
  rw [popc_step, popc_step (a / 2), popc_step (a / 2 / 2), popc_step (a / 2 / 2 / 2), popc_step (a / 2 / 2 / 2 / 2), popc_step (a / 2 / 2 / 2 / 2 / 2), popc_step (a / 2 / 2 / 2 / 2 / 2 / 2), popc_step (a / 2 / 2 / 2 / 2 / 2 / 2 / 2)]
  rw [show a / 2 / 2 / 2 / 2 / 2 / 2 / 2 / 2 = 0 by omega, popc_zero]
  unfold popB
  omega
def rep (c : Nat) : Nat → Nat
  | 0 => 0
  | k + 1 => c + 256 * rep c k
def mapB (f : Nat → Nat) : Nat → Nat → Nat
  | 0, _ => 0
  | k + 1, x => f (x % 256) + 256 * mapB f k (x / 256)
theorem in_range {p : Nat → Bool} {n a : Nat} (h : ((List.range n).all p) = true) (ha : a < n) : p a = true := List.all_eq_true.1 h a (List.mem_range.2 ha)
theorem p1_map : ∀ k x, p1 (rep 85 k) x = mapB (p1 85) k x
  | 0, x => by simp [p1, rep, mapB]
  | k + 1, x => by
    have ih := p1_map k (x / 256)
    have ha : x % 256 < 256 := Nat.mod_lt _ (by omega)
    have t1 := in_range (in_range tab1 ha) (show x / 256 % 2 < 2 from Nat.mod_lt _ (by omega))
    rw [beq_iff_eq] at t1
    rw [mapB, ← ih]
    unfold p1 at *
    rw [show x / 2 = (x % 256 / 2 + 128 * (x / 256 % 2)) + 256 * (x / 256 / 2) by omega, rep, and_byte _ _ _ _ (by omega) (by omega), t1]
    have e : x &&& (85 + 256 * rep 85 k) = (x % 256 &&& 85) + 256 * (x / 256 &&& rep 85 k) := by
      rw [← and_byte _ _ _ _ ha (by omega)]; congr 1; omega
    rw [e]; omega
theorem p2_map : ∀ k x, p2 (rep 51 k) x = mapB (p2 51) k x
  | 0, x => by simp [p2, rep, mapB]
  | k + 1, x => by
    have ih := p2_map k (x / 256)
    have ha : x % 256 < 256 := Nat.mod_lt _ (by omega)
    have t1 := in_range (in_range tab2 ha) (show x / 256 % 4 < 4 from Nat.mod_lt _ (by omega))
    rw [beq_iff_eq] at t1
    rw [mapB, ← ih]
    unfold p2 at *
    rw [show x / 4 = (x % 256 / 4 + 64 * (x / 256 % 4)) + 256 * (x / 256 / 4) by omega, rep, and_byte _ _ _ _ (by omega) (by omega), t1]
    have e : x &&& (51 + 256 * rep 51 k) = (x % 256 &&& 51) + 256 * (x / 256 &&& rep 51 k) := by
      rw [← and_byte _ _ _ _ ha (by omega)]; congr 1; omega
    rw [e]; omega
theorem map_map (f g : Nat → Nat) (hf : ∀ a < 256, f a < 256) : ∀ k x, mapB g k (mapB f k x) = mapB (fun a => g (f a)) k x
  | 0, x => rfl
  | k + 1, x => by
    have h := hf (x % 256) (Nat.mod_lt _ (by omega))
    rw [mapB, mapB, mapB, show (f (x % 256) + 256 * mapB f k (x / 256)) % 256 = f (x % 256) by omega, show (f (x % 256) + 256 * mapB f k (x / 256)) / 256 = mapB f k (x / 256) by omega, map_map f g hf k]
theorem nib_low : ∀ k x, mapB nib k x % 16 ≤ 4
  | 0, x => by simp [mapB]
  | k + 1, x => by
    have := in_range tab4 (show x % 256 < 256 from Nat.mod_lt _ (by omega))
    simp only [Bool.and_eq_true, decide_eq_true_eq] at this
    rw [mapB]; omega
theorem p3_map : ∀ k x, p3 (rep 15 k) (mapB nib k x) = mapB popB k x
  | 0, x => by simp [p3, rep, mapB]
  | k + 1, x => by
    have ih := p3_map k (x / 256)
    have hl := nib_low k (x / 256)
    have ha : x % 256 < 256 := Nat.mod_lt _ (by omega)
    have t1 := in_range (in_range tab3 ha) (show mapB nib k (x / 256) % 16 < 5 by omega)
    have t2 := in_range tab4 ha
    simp only [Bool.and_eq_true, decide_eq_true_eq, beq_iff_eq] at t1 t2
    rw [mapB, mapB, ← ih]
    generalize mapB nib k (x / 256) = y at *
    generalize nib (x % 256) = q at *
    unfold p3
    rw [show (q + 256 * y) / 16 + (q + 256 * y) = (q / 16 + 16 * (y % 16) + q) + 256 * (y / 16 + y) by omega, rep, and_byte _ _ _ _ t1.1 (by omega), t1.2]
theorem three (x : Nat) : p3 1085102592571150095 (p2 3689348814741910323 (p1 6148914691236517205 x)) = mapB popB 8 x := by
  have h1 := p1_map 8 x
  have h2 := p2_map 8 (mapB (p1 85) 8 x)
  rw [map_map (p1 85) (p2 51) (fun a ha => by have := in_range tab4 ha; simp only [Bool.and_eq_true, decide_eq_true_eq] at this; exact this.1.2)] at h2
  have h3 := p3_map 8 x
  rw [show rep 85 8 = 6148914691236517205 by decide] at h1
  rw [show rep 51 8 = 3689348814741910323 by decide] at h2
  rw [show rep 15 8 = 1085102592571150095 by decide] at h3
  rw [h1, h2]; exact h3
theorem popc_split (x : Nat) : popc x = popB (x % 256) + popc (x / 256) := by
  rw [popB_eq _ (Nat.mod_lt _ (by omega)), ← popc_byte _ _ (Nat.mod_lt _ (by omega))]; congr 1; omega
theorem dv (a r : Nat) (h : a < 256) : (a + 256 * r) / 256 = r := by omega
theorem lin2 {z c0 r1 c1 r2 : Nat} (hz : z = c0 + 256 * r1) (g1 : r1 = c1 + 256 * r2) : z + r1 = (c0 + c1) + 256 * (r1 + r2) := by omega
theorem lin2' {a b c d r s : Nat} (h : a = c + 256 * r) (g : b = d + 256 * s) : a + b = (c + d) + 256 * (r + s) := by omega
/-- The last three steps. -/
def fin3 (z : Nat) : Nat := z + z / 256
theorem last (c0 c1 c2 c3 c4 c5 c6 c7 r1 r2 r3 r4 r5 r6 z : Nat) (h0 : c0 ≤ 8) (h1 : c1 ≤ 8) (h2 : c2 ≤ 8) (h3 : c3 ≤ 8) (h4 : c4 ≤ 8) (h5 : c5 ≤ 8) (h6 : c6 ≤ 8) (h7 : c7 ≤ 8)
    (hz : z = c0 + 256 * r1) (g1 : r1 = c1 + 256 * r2) (g2 : r2 = c2 + 256 * r3) (g3 : r3 = c3 + 256 * r4) (g4 : r4 = c4 + 256 * r5) (g5 : r5 = c5 + 256 * r6) (g6 : r6 = c6 + 256 * c7) :
    z / 256 = r1 ∧ (z + r1) / 65536 = r2 + r3 ∧ (z + r1 + (r2 + r3)) / 4294967296 = r4 + r5 + r6 + c7 ∧ z + r1 + (r2 + r3) + (r4 + r5 + r6 + c7) = (c0 + c1 + (c2 + c3) + (c4 + c5 + c6 + c7)) + 256 * (r1 + r2 + (r3 + r4) + (r5 + r6 + c7 + 0)) := by
  have d1 : z / 256 = r1 := by rw [hz]; exact dv _ _ (by omega)
  have f1 : z + r1 = (c0 + c1) + 256 * (r1 + r2) := lin2' hz g1
  have d2 : (z + r1) / 256 = r1 + r2 := by rw [f1]; exact dv _ _ (by omega)
  have q1 : r1 + r2 = (c1 + c2) + 256 * (r2 + r3) := lin2' g1 g2
  have d3 : (r1 + r2) / 256 = r2 + r3 := by rw [q1]; exact dv _ _ (by omega)
  have d4 : (z + r1) / 65536 = r2 + r3 := by rw [show (65536 : Nat) = 256 * 256 by decide, ← Nat.div_div_eq_div_mul, d2, d3]
  have q2 : r2 + r3 = (c2 + c3) + 256 * (r3 + r4) := lin2' g2 g3
  have f2 : z + r1 + (r2 + r3) = (c0 + c1 + (c2 + c3)) + 256 * (r1 + r2 + (r3 + r4)) := lin2' f1 q2
  have d5 : (z + r1 + (r2 + r3)) / 256 = r1 + r2 + (r3 + r4) := by rw [f2]; exact dv _ _ (by omega)
  have q3 : r3 + r4 = (c3 + c4) + 256 * (r4 + r5) := lin2' g3 g4
  have d6 : (r1 + r2 + (r3 + r4)) / 256 = r2 + r3 + (r4 + r5) := by rw [lin2' q1 q3]; exact dv _ _ (by omega)
  have q4 : r4 + r5 = (c4 + c5) + 256 * (r5 + r6) := lin2' g4 g5
  have d7 : (r2 + r3 + (r4 + r5)) / 256 = r3 + r4 + (r5 + r6) := by rw [lin2' q2 q4]; exact dv _ _ (by omega)
  have q5 : r5 + r6 = (c5 + c6) + 256 * (r6 + c7) := lin2' g5 g6
  have d8 : (r3 + r4 + (r5 + r6)) / 256 = r4 + r5 + (r6 + c7) := by rw [lin2' q3 q5]; exact dv _ _ (by omega)
  have d9 : (z + r1 + (r2 + r3)) / 4294967296 = r4 + r5 + (r6 + c7) := by
    rw [show (4294967296 : Nat) = 256 * 256 * 256 * 256 by decide, ← Nat.div_div_eq_div_mul, ← Nat.div_div_eq_div_mul, ← Nat.div_div_eq_div_mul, d5, d6, d7, d8]
  refine ⟨d1, d4, by rw [d9]; ac_rfl, ?_⟩
  have q6 : c7 = c7 + 256 * 0 := by rw [Nat.mul_zero, Nat.add_zero]
  have e4 : r4 + r5 + r6 + c7 = (c4 + c5 + c6 + c7) + 256 * (r5 + r6 + c7 + 0) := lin2' (lin2' q4 g6) q6
  exact lin2' f2 e4
theorem popB_le (a : Nat) : popB a ≤ 8 := by unfold popB; omega
theorem mapB_lt : ∀ k x, 16 * mapB popB k x < 256 ^ k
  | 0, x => by simp [mapB]
  | k + 1, x => by
    have ih := mapB_lt k (x / 256)
    have h := popB_le (x % 256)
    rw [mapB, Nat.pow_succ]
    generalize (256 : Nat) ^ k = y at *
    omega
theorem ibu_and (a b : Nat) (ha : a < 2 ^ 64) (hb : b < 2 ^ 64) : ibits .and .u64 (a : Int) (b : Int) = ((a &&& b : Nat) : Int) := by
  show IntKind.u64.wrap ((BitVec.ofInt 64 (a : Int) &&& BitVec.ofInt 64 (b : Int)).toNat : Int) = _
  rw [BitVec.toNat_and, ofInt_toNat a ha, ofInt_toNat b hb, wrap_u64']
  have : a &&& b < 2 ^ 64 := Nat.and_lt_two_pow _ hb
  rw [p64] at this; omega
theorem fdiv_nat (a b : Nat) : (a : Int).fdiv (b : Int) = ((a / b : Nat) : Int) := by rw [← Int.ofNat_fdiv]
theorem wrapu_nat (a : Nat) (h : a < 2 ^ 64) : IntKind.u64.wrap (a : Int) = a := by rw [wrap_u64']; rw [p64] at h; omega
theorem p1_lt (m x : Nat) (hm : m < 2 ^ 63) (hx : x < 2 ^ 64) : p1 m x < 2 ^ 64 := by
  have h1 : (x / 2) &&& m < 2 ^ 63 := Nat.and_lt_two_pow _ hm
  have h2 : x &&& m < 2 ^ 63 := Nat.and_lt_two_pow _ hm
  unfold p1; rw [p63] at h1 h2; rw [p64]; omega
theorem p2_lt (m x : Nat) (hm : m < 2 ^ 63) (hx : x < 2 ^ 64) : p2 m x < 2 ^ 64 := by
  have h1 : (x / 4) &&& m < 2 ^ 63 := Nat.and_lt_two_pow _ hm
  have h2 : x &&& m < 2 ^ 63 := Nat.and_lt_two_pow _ hm
  unfold p2; rw [p63] at h1 h2; rw [p64]; omega
theorem e1 (x : Nat) (hx : x < 2 ^ 64) : IntKind.u64.wrap (ibits .and .u64 ((x : Int).fdiv 2) 6148914691236517205 + ibits .and .u64 (x : Int) 6148914691236517205) = ((p1 6148914691236517205 x : Nat) : Int) := by
  have := p1_lt 6148914691236517205 x (by decide) hx
  rw [show (2 : Int) = ((2 : Nat) : Int) from rfl, fdiv_nat, show (6148914691236517205 : Int) = ((6148914691236517205 : Nat) : Int) from rfl, ibu_and _ _ (Nat.lt_of_le_of_lt (Nat.div_le_self _ _) hx) (by decide), ibu_and _ _ hx (by decide), ← Int.natCast_add]
  exact wrapu_nat _ this
theorem e2 (x : Nat) (hx : x < 2 ^ 64) : IntKind.u64.wrap (ibits .and .u64 ((x : Int).fdiv 4) 3689348814741910323 + ibits .and .u64 (x : Int) 3689348814741910323) = ((p2 3689348814741910323 x : Nat) : Int) := by
  have := p2_lt 3689348814741910323 x (by decide) hx
  rw [show (4 : Int) = ((4 : Nat) : Int) from rfl, fdiv_nat, show (3689348814741910323 : Int) = ((3689348814741910323 : Nat) : Int) from rfl, ibu_and _ _ (Nat.lt_of_le_of_lt (Nat.div_le_self _ _) hx) (by decide), ibu_and _ _ hx (by decide), ← Int.natCast_add]
  exact wrapu_nat _ this
theorem e3 (x : Nat) (hx : x < 2 ^ 63) : ibits .and .u64 (IntKind.u64.wrap ((x : Int).fdiv 16 + (x : Int))) 1085102592571150095 = ((p3 1085102592571150095 x : Nat) : Int) := by
  rw [p63] at hx
  rw [show (16 : Int) = ((16 : Nat) : Int) from rfl, fdiv_nat, ← Int.natCast_add, wrapu_nat _ (by rw [p64]; omega), show (1085102592571150095 : Int) = ((1085102592571150095 : Nat) : Int) from rfl, ibu_and _ _ (by rw [p64]; omega) (by decide)]
  rfl
theorem e4 (z d q : Nat) (h : z / d = q) (hz : z + q < 2 ^ 64) : IntKind.u64.wrap ((z : Int) + (z : Int).fdiv (d : Int)) = ((z + q : Nat) : Int) := by
  rw [fdiv_nat, h, ← Int.natCast_add]; exact wrapu_nat _ hz
end Go.AM
