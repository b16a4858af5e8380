/-
  Contracts: alphabets of nets.
-/
import Derived.Test.YtnbembgjjepbpaaFnG
import Derived.Test.YtnbembgjjepbpaaFnTA
set_option linter.unusedVariables false
set_option linter.unusedSimpArgs false
set_option maxRecDepth 100000
set_option maxHeartbeats 1600000
namespace Go.AM
open Go.Proofs
/-- A mask grown by the places below `n` that `p` tells. -/
def orMask (s : Int) (p : Nat → Bool) : Nat → Int
  | 0 => s
  | k + 1 => if p k then ibits .or .i64 (orMask s p k) (pow1 k) else orMask s p k
theorem M_orMask {s : Int} (p : Nat → Bool) (hs : M s) : ∀ n, n ≤ 63 → M (orMask s p n)
  | 0, _ => hs
  | n + 1, h => by
    rw [orMask]; split
    · exact M_or (M_orMask p hs n (by omega)) (M_pow1 (by omega))
    · exact M_orMask p hs n (by omega)
theorem tb_orMask {s : Int} (p : Nat → Bool) (hs : M s) (i : Nat) : ∀ n, n ≤ 63 → tb (orMask s p n) i = (tb s i || (decide (i < n) && p i))
  | 0, _ => by simp [orMask]
  | n + 1, h => by
    rw [orMask]
    have ih := tb_orMask p hs i n (by omega)
    by_cases e : i = n
    · subst e
      split
      · rename_i hp
        rw [tb_or (M_orMask p hs i (by omega)) (M_pow1 (by omega)), tb_pow1 (by omega)]; simp [hp]
      · rename_i hp
        rw [ih]; simp [hp]
    · split
      · rw [tb_or (M_orMask p hs n (by omega)) (M_pow1 (by omega)), tb_pow1 (by omega), ih]
        simp [show ¬ n = i by omega, show (i < n + 1) = (i < n) from propext ⟨fun _ => by omega, fun _ => by omega⟩]
      · rw [ih]
        simp [show (i < n + 1) = (i < n) from propext ⟨fun _ => by omega, fun _ => by omega⟩]
/-- The masks of the first numbers. -/
def pows (n : Nat) : List Int := (List.range n).map fun (k : Nat) => pow1 k
theorem pows_succ (n : Nat) : pows (n + 1) = pows n ++ [pow1 n] := by simp [pows, List.range_succ]
@[simp] theorem pows_length (n : Nat) : (pows n).length = n := by simp [pows]
theorem loose_spec (n : Nat) (h : n ≤ 24) : ACalls1 Try.prog 76 [iv n] (.agg [iv n, .own 1 false (ints (pows n))]) := by
  refine walk (fun _ => false) mixed Go.Proofs.Try.func76 rfl rfl rfl (by kernel_rfl) rfl (by simp) (by kernel_rfl) ?_
  simp
  refine awp_loop2 [2, 3, 7] [2] (fun k : Nat => [(8, iv k)]) (fun k => [(3, .box [iv n, .ref 100]), (100, .own 1 false (ints (pows k)))]) (fun k => k ≤ n) (fun k => n - k) 0 (weak_mk (fun t => if t = 100 then none else some t) (by simp) (by simp [pows]) rfl) (by simp) ?_
  intro k hk
  by_cases hlt : k < n
  · simp [hlt]
    refine ⟨_, one_spec k (by omega), ?_⟩
    simp [wrap_id ((k : Int) + 1) (by omega) (by omega)]
    repeat (refine And.intro (by omega) ?_)
    first | refine ⟨⟨by kernel_rfl, by kernel_rfl⟩, ?_⟩ | exact ⟨by kernel_rfl, by kernel_rfl⟩
    exact Round.mk (k + 1) (weak_mk (fun t => if t = 100 then some 16 else some t) (by simp) (by simp [pows_succ]) rfl) hlt (by omega)
  · simp [hlt]
    rw [show k = n by omega]; simp
/-- Whether two transitions share places. -/
def touch (x : NetV) (a b : Nat) : Bool := ibits .and .i64 (ibits .or .i64 (nth x.pre a) (nth x.post a)) (ibits .or .i64 (nth x.pre b) (nth x.post b)) != 0
/-- The alphabet of a net. -/
def alphaOf (x : NetV) : AlphaV := ⟨x.pre.length, (List.range x.pre.length).map fun a => orMask 0 (fun b => a == b || touch x a b) x.pre.length⟩
theorem l17Alphabet_spec (n1 n2 : Bool) (x : NetV) (hl : x.post.length = x.pre.length) (h8 : x.pre.length ≤ 8) : ACalls1 Try.prog 53 [netSl n1 n2 x] (alphaOw false (alphaOf x)) := by
  refine walk (fun t => t == 1) mixed Go.Proofs.Try.func53 rfl rfl rfl (by kernel_rfl) rfl (by simp) (by kernel_rfl) ?_
  simp
  refine ⟨_, l17Letters_spec _ _ x, ?_⟩
  simp
  refine awp_loop2 [1, 2, 3] [2] (fun k : Nat => [(4, iv k)]) (fun k => [(3, .box [iv x.pre.length, .ref 100]), (100, .own 1 false (ints ((List.range k).map fun a => orMask 0 (fun b => a == b || touch x a b) x.pre.length)))]) (fun k => k ≤ x.pre.length) (fun k => x.pre.length - k) 0 (weak_mk (fun t => if t = 100 then none else some t) (by simp) (by simp) rfl) (by simp) ?_
  intro k hk
  by_cases hlt : k < x.pre.length
  · simp [hlt]
    refine awp_loop2 [1, 2, 3, 4] [2, 3, 100] (fun j : Nat => [(6, iv j), (5, iv (orMask 0 (fun b => k == b || touch x k b) j))]) (fun j => []) (fun j => j ≤ x.pre.length) (fun j => x.pre.length - j) 0 (weak_mk some (by simp [orMask]) (by simp) rfl) (by simp) ?_
    intro j hj
    by_cases hjl : j < x.pre.length
    · by_cases hkj : k = j
      · subst hkj
        simp [hjl]
        refine ⟨_, l01One_spec k (by unfold I64; omega), ?_⟩
        simp [wrap_id ((k : Int) + 1) (by omega) (by omega)]
        exact Round.mk (k + 1) (weak_mk some (by simp [orMask]) (by simp) rfl) hjl (by omega)
      · simp [hjl, hkj, hlt, hl]
        refine ⟨fun h => ?_, fun h => ?_⟩
        · refine ⟨_, l01One_spec j (by unfold I64; omega), ?_⟩
          simp [wrap_id ((j : Int) + 1) (by omega) (by omega)]
          exact Round.mk (j + 1) (weak_mk some (by simp [orMask, hkj, touch, h]) (by simp) rfl) hjl (by omega)
        · simp [wrap_id ((j : Int) + 1) (by omega) (by omega)]
          exact Round.mk (j + 1) (weak_mk some (by simp [orMask, hkj, touch, h]) (by simp) rfl) hjl (by omega)
    · simp [hjl, wrap_id ((k : Int) + 1) (by omega) (by omega)]
      repeat (refine And.intro (by omega) ?_)
      refine Round.mk (k + 1) (weak_mk (fun t => if t = 100 then some 59 else some t) (by simp) (by simp [List.range_succ, show j = x.pre.length by omega]) rfl) hlt (by omega)
  · simp [hlt, alphaOf]
    rw [show k = x.pre.length by omega]; simp
/-- How far the other text's masks have grown: before row `k` whole, in row `k` up to `j`. -/
def grown (x : NetV) (k j : Nat) : List Int := (List.range x.pre.length).map fun a => if a < k then orMask (pow1 a) (touch x a) x.pre.length else if a = k then orMask (pow1 a) (touch x a) j else pow1 a
theorem touch_iff {x : NetV} {a b : Nat} : (ibits .and .i64 (ibits .or .i64 (nth x.pre a) (nth x.post a)) (ibits .or .i64 (nth x.pre b) (nth x.post b)) = 0) = (touch x a b = false) := by
  unfold touch; simp
theorem set_nth {l : List Int} {k : Nat} : l.set k (nth l k) = l := by
  by_cases h : k < l.length
  · rw [nth_at h]; simp
  · rw [List.set_eq_of_length_le (by omega)]
theorem grown_length (x : NetV) (k j : Nat) : (grown x k j).length = x.pre.length := by simp [grown]
theorem grown_nth (x : NetV) (k j : Nat) (h : k < x.pre.length) : nth (grown x k j) k = orMask (pow1 k) (touch x k) j := by
  rw [nth_at (by rw [grown_length]; exact h)]; simp [grown]
theorem grown_set (x : NetV) (k j : Nat) (h : k < x.pre.length) : (grown x k j).set k (orMask (pow1 k) (touch x k) (j + 1)) = grown x k (j + 1) := by
  apply List.ext_getElem
  · simp [grown]
  · intro i h1 h2
    simp only [List.getElem_set, grown, List.getElem_map, List.getElem_range]
    grind
theorem grown_next (x : NetV) (k : Nat) : grown x k x.pre.length = grown x (k + 1) 0 := by
  unfold grown
  apply List.map_congr_left
  intro a ha
  by_cases h1 : a < k
  · simp [h1, show a < k + 1 by omega]
  · by_cases h2 : a = k
    · subst h2; simp
    · simp [h1, h2, show ¬ a < k + 1 by omega]
      intro h3; subst h3; rfl
theorem grown_start (x : NetV) : pows x.pre.length = grown x 0 0 := by
  unfold grown pows
  apply List.map_congr_left
  intro a ha
  by_cases h2 : a = 0
  · subst h2; simp [orMask]
  · simp [h2]
theorem touch_self {x : NetV} (h : isNet x.p x.pre x.post x.s = true) {a : Nat} (ha : a < x.pre.length) : touch x a a = true := by
  have hM := isNet_M h
  have hl := isNet_len h
  unfold isNet at h
  simp only [Bool.and_eq_true, List.all_eq_true, List.mem_range] at h
  have h2 := h.2 a ha
  unfold isTr at h2
  have e1 : x.pre.getD a 0 = nth x.pre a := rfl
  have e2 : x.post.getD a 0 = nth x.post a := rfl
  rw [e1, e2] at h2
  have m1 := hM _ (List.mem_append_left _ (nth_mem ha))
  have m2 := hM _ (List.mem_append_right _ (nth_mem (show a < x.post.length by omega)))
  simp only [Bool.and_eq_true, bne_iff_ne, ne_eq] at h2
  unfold touch
  simp only [bne_iff_ne, ne_eq]
  intro h3
  apply h2.2
  rw [eq_zero_iff (M_or m1 m2)]
  rw [eq_zero_iff (M_and (M_or m1 m2) (M_or m1 m2))] at h3
  intro i
  have := h3 i
  rw [tb_and (M_or m1 m2) (M_or m1 m2)] at this
  simpa using this
theorem grown_end {x : NetV} (h : isNet x.p x.pre x.post x.s = true) : grown x x.pre.length 0 = (alphaOf x).depends := by
  have hl := isNet_len h
  unfold grown alphaOf
  apply List.map_congr_left
  intro a ha
  rw [List.mem_range] at ha
  rw [if_pos ha]
  apply tb_ext (M_orMask _ (M_pow1 (by omega)) _ (by omega)) (M_orMask _ M_zero _ (by omega))
  intro i hi
  rw [tb_orMask _ (M_pow1 (by omega)) _ _ (by omega), tb_orMask _ M_zero _ _ (by omega), tb_pow1 (by omega)]
  by_cases e : a = i
  · subst e; simp [ha]
  · simp [e, show (a == i) = false by simpa using e]
theorem alphabet_spec (n1 n2 : Bool) (x : NetV) (h : isNet x.p x.pre x.post x.s = true) : ACalls1 Try.prog 54 [netSl n1 n2 x] (alphaOw false (alphaOf x)) := by
  obtain ⟨hl, h8, _⟩ := isNet_len h
  refine walk (fun t => t == 1) mixed Go.Proofs.Try.func54 rfl rfl rfl (by kernel_rfl) rfl (by simp) (by kernel_rfl) ?_
  simp
  refine ⟨_, length_spec _ _ (by unfold Fits; omega), ?_⟩
  simp
  refine ⟨_, loose_spec _ (by omega), ?_⟩
  simp
  rw [grown_start]
  refine awp_loop2 [1, 2, 3, 12] [2] (fun k : Nat => [(13, iv k)]) (fun k => [(3, .box [iv x.pre.length, .ref 100]), (100, .own 1 false (ints (grown x k 0)))]) (fun k => k ≤ x.pre.length) (fun k => x.pre.length - k) 0 (weak_mk (fun t => if t = 100 then some 10001 else some t) (by simp) (by simp) rfl) (by simp) ?_
  intro k hk
  by_cases hlt : k < x.pre.length
  · simp [hlt]
    refine awp_loop2 [1, 2, 3, 4, 12, 13, 18] [2, 3] (fun j : Nat => [(19, iv j)]) (fun j => [(100, .own 1 false (ints (grown x k j)))]) (fun j => j ≤ x.pre.length) (fun j => x.pre.length - j) 0 (weak_mk some (by simp) (by simp) rfl) (by simp) ?_
    intro j hj
    by_cases hjl : j < x.pre.length
    · simp [hjl, hlt, hl]
      refine ⟨fun h0 => ?_, fun h0 => ?_⟩ <;> have h' := h0 <;> rw [touch_iff] at h' <;> (try rw [Bool.not_eq_false] at h')
      · have gl := grown_length x k j
        simp [gl, hlt, show k + 1 ≤ x.pre.length from hlt]
        refine ⟨_, one_spec j (by omega), ?_⟩
        simp [gl, hlt, show k + 1 ≤ x.pre.length from hlt, ints_put, wrap_id ((j : Int) + 1) (by omega) (by omega)]
        rw [exE_eq]
        simp [gl, hlt, show k + 1 ≤ x.pre.length from hlt, ints_put, wrap_id ((j : Int) + 1) (by omega) (by omega)]
        first | refine ⟨⟨by kernel_rfl, by kernel_rfl⟩, ?_⟩ | exact ⟨by kernel_rfl, by kernel_rfl⟩
        refine Round.mk (j + 1) (weak_mk some (by simp) (by simp [← grown_set x k j hlt, orMask, h', grown_nth x k j hlt]) rfl) hjl (by omega)
      · simp [wrap_id ((j : Int) + 1) (by omega) (by omega)]
        refine Round.mk (j + 1) (weak_mk some (by simp) (by simp [← grown_set x k j hlt, orMask, h', ← grown_nth x k j hlt, set_nth]) rfl) hjl (by omega)
    · simp [hjl, wrap_id ((k : Int) + 1) (by omega) (by omega)]
      refine Round.mk (k + 1) (weak_mk some (by simp) (by simp [← grown_next, show j = x.pre.length by omega]) rfl) hlt (by omega)
  · simp [hlt, ← grown_end h, show k = x.pre.length by omega]
    simp [alphaOf]
/-- The alphabet of a net, and the code. -/
def alphabetOfNetV (x : NetV) : AlphaV × Int := if isNet x.p x.pre x.post x.s then (alphaOf x, 0) else (⟨0, []⟩, 1)
theorem AlphabetOfNet_fits (x : NetV) (hx : NetOk x) : AlphabetOk (alphabetOfNetV x).1 := by
  unfold alphabetOfNetV
  split
  · rename_i h
    have hl := isNet_len h
    refine ⟨by simp [alphaOf, I64]; omega, by simp [alphaOf, Fits]; omega, ?_⟩
    intro i hi
    simp only [alphaOf, List.mem_map, List.mem_range] at hi
    obtain ⟨a, ha, rfl⟩ := hi
    have := M_orMask (fun b => a == b || touch x a b) M_zero x.pre.length (by omega)
    unfold M at this; unfold I64; omega
  · simp [AlphabetOk, I64, ListOk, Fits]
theorem AlphabetOfNet_spec (n1 n2 : Bool) (x : NetV) (hx : NetOk x) : ACalls1 Try.prog 27 [netSl n1 n2 x] (.tup [alphaOw false (alphabetOfNetV x).1, iv (alphabetOfNetV x).2]) := by
  refine walk (fun t => t == 1) mixed Go.Proofs.Try.func27 rfl rfl rfl (by kernel_rfl) rfl (by simp) (by kernel_rfl) ?_
  simp
  refine ⟨_, IsNet_spec _ _ x.p x.pre x.post x.s, ?_⟩
  unfold alphabetOfNetV
  cases h : isNet x.p x.pre x.post x.s
  · simp
  · simp
    refine ⟨_, alphabet_spec _ _ x h, ?_⟩
    simp
theorem specAlphabetOfNet_spec (n1 n2 : Bool) (x : NetV) (hx : NetOk x) : ACalls1 Try.prog 26 [netSl n1 n2 x] (.tup [alphaOw false (alphabetOfNetV x).1, iv (alphabetOfNetV x).2]) := by
  refine walk (fun t => t == 1) mixed Go.Proofs.Try.func26 rfl rfl rfl (by kernel_rfl) rfl (by simp) (by kernel_rfl) ?_
  simp
  refine ⟨_, l17Is_spec _ _ x.p x.pre x.post x.s hx.1, ?_⟩
  unfold alphabetOfNetV
  cases h : isNet x.p x.pre x.post x.s
  · simp
  · have hl := isNet_len h
    simp
    refine ⟨_, l17Alphabet_spec _ _ x hl.1 hl.2.1, ?_⟩
    simp
end Go.AM
