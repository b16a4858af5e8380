/-
  Contracts: the alphabet of places, the order of the positions of a word.
-/
import Derived.Test.YthabclhldlikfaaDoorFnGb
import Derived.Test.YthabclhldlikfaaDoorFnH
set_option linter.unusedVariables false
set_option linter.unusedSimpArgs false
set_option maxRecDepth 100000
set_option maxHeartbeats 1600000
namespace Go.AM
open Go.Proofs
theorem set_nthG {l : List Int} {k : Nat} : l.set k (nth l k) = l := by
  by_cases h : k < l.length
  · rw [nth_at h]; simp
  · rw [List.set_eq_of_length_le (by omega)]
/-- Rows that are filled one after the other, place by place. -/
def growT (B : Nat → Int) (T : Nat → Nat → Bool) (n k j : Nat) : List Int := (List.range n).map fun a => if a < k then orMask (B a) (T a) n else if a = k then orMask (B a) (T a) j else B a
theorem growT_length (B : Nat → Int) (T : Nat → Nat → Bool) (n k j : Nat) : (growT B T n k j).length = n := by simp [growT]
theorem growT_nth {B : Nat → Int} {T : Nat → Nat → Bool} {n k j : Nat} (h : k < n) : nth (growT B T n k j) k = orMask (B k) (T k) j := by
  rw [nth_at (by rw [growT_length]; exact h)]; simp [growT]
theorem growT_set {B : Nat → Int} {T : Nat → Nat → Bool} {n k j : Nat} : (growT B T n k j).set k (orMask (B k) (T k) (j + 1)) = growT B T n k (j + 1) := by
  apply List.ext_getElem
  · simp [growT]
  · intro i h1 h2
    simp only [List.getElem_set, growT, List.getElem_map, List.getElem_range]
    grind
theorem growT_next {B : Nat → Int} {T : Nat → Nat → Bool} {n k : Nat} : growT B T n k n = growT B T n (k + 1) 0 := by
  unfold growT
  apply List.map_congr_left
  intro a ha
  by_cases h1 : a < k
  · simp [h1, show a < k + 1 by omega]
  · by_cases h2 : a = k
    · subst h2; simp
    · simp [h1, h2, show ¬ a < k + 1 by omega]
      intro h3; subst h3; rfl
theorem growT_start {B : Nat → Int} {T : Nat → Nat → Bool} {n : Nat} : growT B T n 0 0 = (List.range n).map B := by
  unfold growT
  apply List.map_congr_left
  intro a ha
  by_cases h2 : a = 0
  · subst h2; simp [orMask]
  · simp [h2]
theorem growT_end {B : Nat → Int} {T : Nat → Nat → Bool} {n : Nat} : growT B T n n 0 = (List.range n).map fun a => orMask (B a) (T a) n := by
  unfold growT
  apply List.map_congr_left
  intro a ha
  rw [List.mem_range] at ha
  simp [ha]
/-- The text's changes: one place more, or none. -/
theorem growT_yes {B : Nat → Int} {T : Nat → Nat → Bool} {n k j : Nat} (h : k < n) (ht : T k j = true) : (growT B T n k j).set k (ibits .or .i64 (nth (growT B T n k j) k) (pow1 j)) = growT B T n k (j + 1) := by
  rw [growT_nth h, ← growT_set, orMask, if_pos ht]
theorem growT_no {B : Nat → Int} {T : Nat → Nat → Bool} {n k j : Nat} (h : k < n) (ht : T k j = false) : growT B T n k j = growT B T n k (j + 1) := by
  have e : orMask (B k) (T k) (j + 1) = nth (growT B T n k j) k := by rw [growT_nth h, orMask, ht]; rfl
  rw [← growT_set, e, set_nthG]
/-- Whether two sets of places meet. -/
def meets (p q : Int) : Bool := ibits .and .i64 p q != 0
def depP (pl : List Int) : List Int := (List.range pl.length).map fun a => orMask 0 (fun b => meets (nth pl a) (nth pl b)) pl.length
/-- Valid places. -/
structure PlOk (n : Int) (pl : List Int) : Prop where
  ok : arePl n pl = true
theorem pl_len {n : Int} {pl : List Int} (h : arePl n pl = true) : pl.length ≤ 8 ∧ 1 ≤ n ∧ n ≤ 4 := by
  unfold arePl at h
  simp only [Bool.and_eq_true, decide_eq_true_eq] at h
  omega
theorem pl_mask {n : Int} {pl : List Int} (h : arePl n pl = true) : ∀ a, a < pl.length → M (nth pl a) ∧ 1 ≤ nth pl a ∧ ∀ i : Nat, n ≤ i → tb (nth pl a) i = false := by
  intro a ha
  obtain ⟨h1, h2, h3⟩ := pl_len h
  obtain ⟨m, rfl⟩ := Int.eq_ofNat_of_zero_le (show 0 ≤ n by omega)
  unfold arePl at h
  simp only [Bool.and_eq_true, List.all_eq_true, decide_eq_true_eq] at h
  obtain ⟨k1, k2⟩ := h.2 _ (nth_mem ha)
  exact ⟨full_M (n := m) (by omega) (by omega) k2, k1, fun i hi => tb_of_le (n := m) (by omega) (by omega) k2 (by omega)⟩
theorem meets_self {n : Int} {pl : List Int} (h : arePl n pl = true) {a : Nat} (ha : a < pl.length) : meets (nth pl a) (nth pl a) = true := by
  obtain ⟨m1, m2, _⟩ := pl_mask h a ha
  unfold meets
  simp only [bne_iff_ne, ne_eq]
  intro e
  rw [eq_zero_iff (M_and m1 m1)] at e
  have : nth pl a = 0 := by
    rw [eq_zero_iff m1]
    intro i
    have := e i
    rw [tb_and m1 m1] at this
    simpa using this
  omega
theorem depP_length (pl : List Int) : (depP pl).length = pl.length := by simp [depP]
theorem depP_nth {pl : List Int} {a : Nat} (h : a < pl.length) : nth (depP pl) a = orMask 0 (fun b => meets (nth pl a) (nth pl b)) pl.length := by
  rw [nth_at (by rw [depP_length]; exact h)]; simp [depP]
theorem depP_ok {pl : List Int} (h : pl.length ≤ 8) : TOk (depP pl) := by
  refine ⟨by rw [depP_length]; omega, fun a ha => ?_⟩
  rw [depP_length] at ha
  rw [depP_nth ha]; exact M_orMask _ M_zero _ (by omega)
theorem depP_tb {pl : List Int} (h : pl.length ≤ 8) {a b : Nat} (ha : a < pl.length) (hb : b < pl.length) : tb (nth (depP pl) a) b = meets (nth pl a) (nth pl b) := by
  rw [depP_nth ha, tb_orMask _ M_zero _ _ (by omega)]; simp [hb]
/-- Edges of the order of the positions of a word. -/
def edgB (t : List Int) (u : List Nat) (i k : Nat) : Bool := decide (i < k) && tb (nth t (natAt u i)) (natAt u k)
def edgR (t : List Int) (u : List Nat) : List Int := (List.range u.length).map fun i => orMask 0 (edgB t u i) u.length
/-- One step of the closure. -/
def stepW (k : Nat) (out : List Int) (i : Nat) : List Int := if tb (nth out i) k then out.set i (ibits .or .i64 (nth out i) (nth out k)) else out
def passW (n : Nat) (out : List Int) (k : Nat) : List Int := (List.range n).foldl (stepW k) out
def reflR (r : List Int) : List Int := (List.range r.length).map fun i => ibits .or .i64 (nth r i) (pow1 i)
def clo (r : List Int) : List Int := (List.range r.length).foldl (passW r.length) (reflR r)
theorem stepW_length (k i : Nat) (out : List Int) : (stepW k out i).length = out.length := by unfold stepW; split <;> simp
theorem foldW_length (k : Nat) : ∀ (l : List Nat) (out : List Int), (l.foldl (stepW k) out).length = out.length
  | [], _ => rfl
  | i :: l, out => by rw [List.foldl_cons, foldW_length k l, stepW_length]
theorem passW_length (n k : Nat) (out : List Int) : (passW n out k).length = out.length := foldW_length _ _ _
theorem foldP_length (n : Nat) : ∀ (l : List Nat) (out : List Int), (l.foldl (passW n) out).length = out.length
  | [], _ => rfl
  | i :: l, out => by rw [List.foldl_cons, foldP_length n l, passW_length]
theorem reflR_length (r : List Int) : (reflR r).length = r.length := by simp [reflR]
theorem clo_length (r : List Int) : (clo r).length = r.length := by unfold clo; rw [foldP_length, reflR_length]
/-- All are masks. -/
def AllM (l : List Int) : Prop := ∀ i, i < l.length → M (nth l i)
theorem AllM_set {l : List Int} (h : AllM l) {k : Nat} {y : Int} (hy : M y) : AllM (l.set k y) := by
  intro i hi
  rw [List.length_set] at hi
  by_cases hk : k < l.length
  · rw [nth_set y hk i hi]
    split
    · exact hy
    · exact h i hi
  · rw [List.set_eq_of_length_le (by omega)]; exact h i hi
theorem stepW_M {k i : Nat} {out : List Int} (h : AllM out) (hk : k < out.length) (hi : i < out.length) : AllM (stepW k out i) := by
  unfold stepW; split
  · exact AllM_set h (M_or (h i hi) (h k hk))
  · exact h
theorem foldW_M {k : Nat} : ∀ (l : List Nat) {out : List Int}, AllM out → k < out.length → (∀ i ∈ l, i < out.length) → AllM (l.foldl (stepW k) out)
  | [], _, h, _, _ => h
  | i :: l, out, h, hk, hl => foldW_M l (stepW_M h hk (hl i (by simp))) (by rw [stepW_length]; exact hk) (fun j hj => by rw [stepW_length]; exact hl j (by simp [hj]))
theorem foldP_M {n : Nat} : ∀ (l : List Nat) {out : List Int}, AllM out → out.length = n → (∀ k ∈ l, k < n) → AllM (l.foldl (passW n) out)
  | [], _, h, _, _ => h
  | k :: l, out, h, hn, hl => foldP_M l (foldW_M _ h (by rw [hn]; exact hl k (by simp)) (fun i hi => by rw [hn]; exact List.mem_range.1 hi)) (by rw [passW_length]; exact hn) (fun j hj => hl j (by simp [hj]))
theorem range_foldl_succ {β : Type} (f : β → Nat → β) (b : β) (k : Nat) : (List.range (k + 1)).foldl f b = f ((List.range k).foldl f b) k := by
  rw [List.range_succ, List.foldl_append]; rfl
theorem reflR_M {r : List Int} (h : AllM r) (h24 : r.length ≤ 24) : AllM (reflR r) := by
  intro i hi
  rw [reflR_length] at hi
  rw [nth_at (by rw [reflR_length]; exact hi)]
  simp only [reflR, List.getElem_map, List.getElem_range]
  exact M_or (h i hi) (M_pow1 (by omega))
/-- The first rows with their own places. -/
def reflK (r : List Int) (k : Nat) : List Int := (reflR r).take k ++ r.drop k
theorem reflK_length (r : List Int) (k : Nat) (hk : k ≤ r.length) : (reflK r k).length = r.length := by
  unfold reflK
  rw [List.length_append, List.length_take, List.length_drop, reflR_length]; omega
theorem reflK_nth {r : List Int} {k : Nat} (h : k < r.length) : nth (reflK r k) k = nth r k := by
  rw [nth_at (by rw [reflK_length _ _ (by omega)]; exact h), nth_at h]
  simp only [reflK]
  rw [List.getElem_append_right (by rw [List.length_take, reflR_length]; omega)]
  simp [reflR_length, show min k r.length = k by omega]
theorem reflK_set {r : List Int} {k : Nat} (h : k < r.length) : (reflK r k).set k (ibits .or .i64 (nth r k) (pow1 k)) = reflK r (k + 1) := by
  apply List.ext_getElem
  · rw [List.length_set, reflK_length _ _ (by omega), reflK_length _ _ (by omega)]
  · intro i h1 h2
    rw [List.length_set, reflK_length _ _ (by omega)] at h1
    rw [List.getElem_set]
    have hl := reflR_length r
    by_cases e : k = i
    · subst e
      simp only [if_true, reflK]
      rw [List.getElem_append_left (by rw [List.length_take]; omega)]
      simp [reflR]
    · simp only [e, if_false, reflK]
      by_cases e2 : i < k
      · rw [List.getElem_append_left (by rw [List.length_take]; omega), List.getElem_append_left (by rw [List.length_take]; omega)]
        simp
      · rw [List.getElem_append_right (by rw [List.length_take]; omega), List.getElem_append_right (by rw [List.length_take]; omega)]
        simp [hl, show min k r.length = k by omega, show min (k + 1) r.length = k + 1 by omega]
        congr 1; omega
end Go.AM
