/-
  Asynchronous automata: what is valid, steps and runs.
-/
import Derived.Test.YtmpdpjpebekfkaaDoorFnK
import Derived.Test.YtmpdpjpebekfkaaDoorFnG
import Derived.Test.YtmpdpjpebekfkaaDoorFnAs
set_option linter.unusedVariables false
set_option linter.unusedSimpArgs false
set_option maxRecDepth 100000
namespace Go.AM
open Go.Proofs
abbrev J3 := Int × List Int × List Int
def nthJ (l : List J3) (n : Nat) : J3 := l.getD n (0, [], [])
theorem nthJ_at {l : List J3} {n : Nat} (h : n < l.length) : nthJ l n = l[n] := by simp [nthJ, h]
theorem nthJ_mem {l : List J3} {n : Nat} (h : n < l.length) : nthJ l n ∈ l := by rw [nthJ_at h]; exact List.getElem_mem h
/-- The data of an asynchronous automaton. -/
structure AsyV where
  places : List Int
  sizes : List Int
  start : List Int
  joints : List J3
  final : List (List Int)
def isGlob (sizes g : List Int) : Bool := decide (g.length = sizes.length) && (List.range g.length).all fun p => decide (0 ≤ nth g p) && decide (nth g p ≤ nth sizes p - 1)
theorem isGlob_len {sizes g : List Int} (h : isGlob sizes g = true) : g.length = sizes.length := by simp [isGlob] at h; exact h.1
theorem isGlob_iff {sizes g : List Int} : isGlob sizes g = true ↔ g.length = sizes.length ∧ ∀ p, p < g.length → 0 ≤ nth g p ∧ nth g p ≤ nth sizes p - 1 := by simp [isGlob]
theorem isGlob_bad {sizes g : List Int} (p : Nat) (hp : p < g.length) (h : ¬ (0 ≤ nth g p ∧ nth g p ≤ nth sizes p - 1)) : isGlob sizes g = false := by
  cases e : isGlob sizes g
  · rfl
  · exact absurd ((isGlob_iff.1 e).2 p hp) h
theorem isGlob_badlen {sizes g : List Int} (h : g.length ≠ sizes.length) : isGlob sizes g = false := by
  cases e : isGlob sizes g
  · rfl
  · exact absurd (isGlob_len e) h
/-! The places of a mask. -/
def cntB (m : Int) (n : Nat) : Nat := ((List.range n).filter fun i => tb m i).length
theorem pick_len (l : List Int) (m : Int) (n : Nat) : (pick l m n).length = cntB m n := by simp [pick, cntB]
theorem cntB_succ (m : Int) (n : Nat) : cntB m (n + 1) = if tb m n then cntB m n + 1 else cntB m n := by
  unfold cntB
  rw [List.range_succ, List.filter_append, List.length_append]
  split
  · rename_i h; simp [h]
  · rename_i h; simp [h]
theorem pick_pre (l : List Int) (m : Int) {p n : Nat} (h : p ≤ n) : ∃ r, pick l m n = pick l m p ++ r := by
  obtain ⟨d, rfl⟩ : ∃ d, n = p + d := ⟨n - p, by omega⟩
  induction d with
  | zero => exact ⟨[], by simp⟩
  | succ d ih =>
    obtain ⟨r, hr⟩ := ih (by omega)
    rw [← Nat.add_assoc, pick_succ, hr]
    split
    · exact ⟨r ++ [nth l (p + d)], by simp⟩
    · exact ⟨r, rfl⟩
theorem nth_app_l {a b : List Int} {i : Nat} (h : i < a.length) : nth (a ++ b) i = nth a i := by
  unfold nth; rw [List.getD_eq_getElem?_getD, List.getD_eq_getElem?_getD, List.getElem?_append_left h]
theorem nth_app_at {a b : List Int} {x : Int} {i : Nat} (h : i = a.length) : nth (a ++ x :: b) i = x := by
  subst h; unfold nth; simp [List.getD_eq_getElem?_getD]
theorem pick_nth (l : List Int) (m : Int) {p n i : Nat} (h : p ≤ n) (hi : i < cntB m p) : nth (pick l m n) i = nth (pick l m p) i := by
  obtain ⟨r, hr⟩ := pick_pre l m h
  rw [hr, nth_app_l (by rw [pick_len]; exact hi)]
theorem pick_at (l : List Int) (m : Int) {p n : Nat} (h : p < n) (hb : tb m p = true) : nth (pick l m n) (cntB m p) = nth l p := by
  rw [pick_nth l m (show p + 1 ≤ n from h) (by rw [cntB_succ, if_pos hb]; omega), pick_succ, if_pos hb, nth_app_at (by rw [pick_len])]
theorem cntB_mono (m : Int) {p n : Nat} (h : p ≤ n) : cntB m p ≤ cntB m n := by
  obtain ⟨d, rfl⟩ : ∃ d, n = p + d := ⟨n - p, by omega⟩
  induction d with
  | zero => simp
  | succ d ih => have := ih (by omega); rw [← Nat.add_assoc, cntB_succ]; split <;> omega
theorem cntB_lt (m : Int) {p n : Nat} (h : p < n) (hb : tb m p = true) : cntB m p < cntB m n := by
  have := cntB_mono m (show p + 1 ≤ n from h)
  rw [cntB_succ, if_pos hb] at this; omega
theorem pick_all {l : List Int} {m : Int} (n : Nat) (hn : n ≤ l.length) (hb : ∀ i, i < n → tb m i = true) : pick l m n = l.take n := by
  induction n with
  | zero => simp [pick]
  | succ n ih => rw [pick_succ, if_pos (hb n (by omega)), ih (by omega) (fun i hi => hb i (by omega)), take_succ _ _ (by omega)]; rfl
theorem bits_len {m : Int} {n : Nat} (h63 : n ≤ 63) (hb : ∀ i, n ≤ i → tb m i = false) : (bitsOf m).length = cntB m n := by
  have := congrArg List.length (pick_bits (l := List.replicate n 0) (m := m) (by simpa using h63) (by simpa using hb))
  simpa [pick_len] using this
theorem bits_at {m : Int} {p : Nat} (h63 : p < 63) (hb : tb m p = true) : nth (bitsOf m) (cntB m p) = p := by
  unfold bitsOf cntB
  obtain ⟨r, hr⟩ : ∃ r, 63 = (p + 1) + r := ⟨63 - (p + 1), by omega⟩
  rw [hr, List.range_add, List.range_succ, List.filter_append, List.filter_append, List.map_append, List.map_append]
  simp only [hb, List.filter_cons_of_pos, List.filter_nil, List.map_cons, List.map_nil, List.append_assoc, List.singleton_append]
  exact nth_app_at (by simp)
/-- Numbers put at the places of a mask, in ascending order. -/
def putL (g : List Int) (bs : List Int) (to : List Int) : Nat → List Int
  | 0 => g
  | k + 1 => (putL g bs to k).set (nth bs k).toNat (nth to k)
@[simp] theorem putL_len (g bs to : List Int) (k : Nat) : (putL g bs to k).length = g.length := by
  induction k with
  | zero => rfl
  | succ k ih => simp [putL, ih]
/-! Joints. -/
def cmpJ (j k : J3) : Int := if j.1 ≠ k.1 then j.1 - k.1 else lexC j.2.1 k.2.1
theorem cmpJ_zero {j k : J3} : cmpJ j k = 0 ↔ j.1 = k.1 ∧ j.2.1 = k.2.1 := by
  unfold cmpJ
  split
  · rename_i h; constructor
    · intro h2; omega
    · intro h2; exact absurd h2.1 h
  · rename_i h
    have h : j.1 = k.1 := by simpa using h
    constructor
    · intro h2; exact ⟨h, lexC_zero h2⟩
    · intro h2; rw [h2.2]; exact lexC_self _
theorem cmpJ_trans {j k l : J3} (h1 : cmpJ j k < 0) (h2 : cmpJ k l ≤ 0) : cmpJ j l < 0 := by
  unfold cmpJ at *
  by_cases e1 : j.1 = k.1 <;> by_cases e2 : k.1 = l.1
  · rw [if_neg (by simpa using e1)] at h1
    rw [if_neg (by simpa using e2)] at h2
    rw [if_neg (by simp; omega)]
    exact lexC_trans h1 h2
  · rw [if_pos e2] at h2; rw [if_pos (by omega)]; omega
  · rw [if_pos e1] at h1; rw [if_pos (by omega)]; omega
  · rw [if_pos e1] at h1; rw [if_pos e2] at h2; rw [if_pos (by omega)]; omega
def jOk (z : AsyV) (i : Nat) : Bool :=
  decide (0 ≤ (nthJ z.joints i).1) && decide ((nthJ z.joints i).1 ≤ (z.places.length : Int) - 1) &&
  isGlob (pick z.sizes (nth z.places (nthJ z.joints i).1.toNat) z.sizes.length) (nthJ z.joints i).2.1 && isGlob (pick z.sizes (nth z.places (nthJ z.joints i).1.toNat) z.sizes.length) (nthJ z.joints i).2.2 &&
  (decide (i = 0) || decide (cmpJ (nthJ z.joints (i - 1)) (nthJ z.joints i) < 0))
def jointsOk (z : AsyV) : Bool := (List.range z.joints.length).all (jOk z) && decide (z.joints.length ≤ 64)
def fOk (z : AsyV) (i : Nat) : Bool := isGlob z.sizes (nthR z.final i) && (decide (i = 0) || decide (lexC (nthR z.final (i - 1)) (nthR z.final i) < 0))
def finalOk (z : AsyV) : Bool := (List.range z.final.length).all (fOk z) && decide (z.final.length ≤ 64)
def sizesOk (z : AsyV) : Bool := z.sizes.all fun x => decide (1 ≤ x) && decide (x ≤ 4)
def isAsy (z : AsyV) : Bool := arePl z.sizes.length z.places && sizesOk z && isGlob z.sizes z.start && jointsOk z && finalOk z
/-- An order of `n` things, told by neighbours. -/
theorem chain_lt {α : Type} {R : α → α → Prop} (tr : ∀ {a b c}, R a b → R b c → R a c) {f : Nat → α} {n : Nat} (h : ∀ i, i < n → 0 < i → R (f (i - 1)) (f i)) : ∀ i j, i < j → j < n → R (f i) (f j) := by
  intro i j
  induction j with
  | zero => intro h1; omega
  | succ j ih =>
    intro h1 h2
    have s := h (j + 1) h2 (by omega)
    rw [Nat.add_sub_cancel] at s
    by_cases e : i = j
    · subst e; exact s
    · exact tr (ih (by omega) (by omega)) s
theorem joints_lt {z : AsyV} (h : jointsOk z = true) {i j : Nat} (h1 : i < j) (h2 : j < z.joints.length) : cmpJ (nthJ z.joints i) (nthJ z.joints j) < 0 := by
  simp only [jointsOk, Bool.and_eq_true, List.all_eq_true, List.mem_range] at h
  refine chain_lt (R := fun a b => cmpJ a b < 0) (fun a b => cmpJ_trans a (by omega)) (f := nthJ z.joints) (n := z.joints.length) ?_ i j h1 h2
  intro i hi h0
  have := h.1 i hi
  simp only [jOk, Bool.and_eq_true, Bool.or_eq_true, decide_eq_true_eq] at this
  omega
theorem final_lt {z : AsyV} (h : finalOk z = true) {i j : Nat} (h1 : i < j) (h2 : j < z.final.length) : lexC (nthR z.final i) (nthR z.final j) < 0 := by
  simp only [finalOk, Bool.and_eq_true, List.all_eq_true, List.mem_range] at h
  refine chain_lt (R := fun a b => lexC a b < 0) (fun a b => lexC_trans a (by omega)) (f := nthR z.final) (n := z.final.length) ?_ i j h1 h2
  intro i hi h0
  have := h.1 i hi
  simp only [fOk, Bool.and_eq_true, Bool.or_eq_true, decide_eq_true_eq] at this
  omega
/-! Steps. -/
def ownP (z : AsyV) (g : List Int) (a : Nat) : List Int := pick g (nth z.places a) g.length
/-- The number of the joint of a letter in a global state. -/
def stepI (z : AsyV) (g : List Int) (a : Nat) : Option Nat := (List.range z.joints.length).find? fun i => decide ((nthJ z.joints i).1 = (a : Int)) && decide ((nthJ z.joints i).2.1 = ownP z g a)
def stepTo (z : AsyV) (g : List Int) (a i : Nat) : List Int := putL g (bitsOf (nth z.places a)) (nthJ z.joints i).2.2 (cntB (nth z.places a) g.length)
def stepV (z : AsyV) (g : List Int) (a : Nat) : Option (List Int) := (stepI z g a).map (stepTo z g a)
theorem stepV_len {z : AsyV} {g g' : List Int} {a : Nat} (h : stepV z g a = some g') : g'.length = g.length := by
  unfold stepV at h
  cases hs : stepI z g a with
  | none => rw [hs] at h; simp at h
  | some i => rw [hs] at h; simp [stepTo] at h; rw [← h]; simp
theorem find_range {n : Nat} {p : Nat → Bool} {i : Nat} (hi : i < n) (hp : p i = true) (hl : ∀ j, j < i → p j = false) : (List.range n).find? p = some i := by
  rw [List.find?_eq_some_iff_append]
  refine ⟨hp, List.range i, (List.range (n - i - 1)).map (fun j => i + 1 + j), ?_, by simpa using fun j hj => hl j hj⟩
  obtain ⟨d, rfl⟩ : ∃ d, n = i + 1 + d := ⟨n - i - 1, by omega⟩
  rw [List.range_add, List.range_succ, show i + 1 + d - i - 1 = d by omega]; simp
theorem find_range_none {n : Nat} {p : Nat → Bool} (h : ∀ j, j < n → p j = false) : (List.range n).find? p = none := by
  rw [List.find?_eq_none]; intro j hj; simp at hj; simp [h j hj]
/-- The joint that a search by halves finds. -/
theorem stepI_of {z : AsyV} (hz : jointsOk z = true) (g : List Int) (a : Nat) : stepI z g a =
    (let i := bsI (fun h => cmpJ (nthJ z.joints h) (a, ownP z g a, [])) z.joints.length
     if i < z.joints.length ∧ cmpJ (nthJ z.joints i) (a, ownP z g a, []) = 0 then some i else none) := by
  simp only
  by_cases he : ∃ i, i < z.joints.length ∧ cmpJ (nthJ z.joints i) (a, ownP z g a, []) = 0
  · obtain ⟨i, hi, h0⟩ := he
    have hb : bsI (fun h => cmpJ (nthJ z.joints h) (a, ownP z g a, [])) z.joints.length = i := by
      refine bsI_of (by omega) (fun h hh => cmpJ_trans (joints_lt hz hh hi) (by omega)) ?_
      intro h h1 h2 h3
      by_cases e : h = i
      · subst e; omega
      · have := cmpJ_trans (joints_lt hz (show i < h by omega) h2) (by omega : cmpJ (nthJ z.joints h) (a, ownP z g a, []) ≤ 0)
        omega
    rw [hb, if_pos ⟨hi, h0⟩]
    refine find_range hi ?_ ?_
    · have := cmpJ_zero.1 h0
      simpa using this
    · intro j hj
      have := cmpJ_trans (joints_lt hz hj hi) (by omega : cmpJ (nthJ z.joints i) (a, ownP z g a, []) ≤ 0)
      cases hp : (decide ((nthJ z.joints j).1 = (a : Int)) && decide ((nthJ z.joints j).2.1 = ownP z g a))
      · rfl
      · have : cmpJ (nthJ z.joints j) (a, ownP z g a, []) = 0 := cmpJ_zero.2 (by simpa using hp)
        omega
  · rw [if_neg (fun h => he ⟨_, h⟩)]
    refine find_range_none fun j hj => ?_
    cases hp : (decide ((nthJ z.joints j).1 = (a : Int)) && decide ((nthJ z.joints j).2.1 = ownP z g a))
    · rfl
    · exact absurd ⟨j, hj, cmpJ_zero.2 (by simpa using hp)⟩ he
theorem final_of {z : AsyV} (hz : finalOk z = true) (g : List Int) :
    (let i := bsI (fun h => lexC (nthR z.final h) g) z.final.length
     decide (i < z.final.length) && decide (lexC (nthR z.final i) g = 0)) = decide (g ∈ z.final) := by
  simp only
  by_cases he : g ∈ z.final
  · obtain ⟨i, hi, h0⟩ := List.mem_iff_getElem.1 he
    have h0 : nthR z.final i = g := by rw [nthR_at hi]; exact h0
    have hb : bsI (fun h => lexC (nthR z.final h) g) z.final.length = i := by
      refine bsI_of (by omega) (fun h hh => by have := final_lt hz hh hi; rw [h0] at this; exact this) ?_
      intro h h1 h2 h3
      by_cases e : h = i
      · subst e; rw [h0, lexC_self] at h3; omega
      · have := lexC_trans (final_lt hz (show i < h by omega) h2) (by omega : lexC (nthR z.final h) g ≤ 0)
        rw [h0, lexC_self] at this; omega
    rw [hb, h0, lexC_self]; simp [hi, he]
  · rw [decide_eq_false he]
    by_cases hi : bsI (fun h => lexC (nthR z.final h) g) z.final.length < z.final.length
    · have : ¬ lexC (nthR z.final (bsI (fun h => lexC (nthR z.final h) g) z.final.length)) g = 0 := fun h => he (by
        have := lexC_zero h
        rw [← this, nthR_at hi]; exact List.getElem_mem hi)
      simp [this]
    · simp [hi]
/-! Runs. -/
def runV (z : AsyV) (g : List Int) : List Int → Option (List Int)
  | [] => some g
  | a :: w => (stepV z g a.toNat).bind fun g' => runV z g' w
theorem runV_app (z : AsyV) (g : List Int) (w : List Int) (a : Int) : runV z g (w ++ [a]) = (runV z g w).bind fun g' => stepV z g' a.toNat := by
  induction w generalizing g with
  | nil => simp [runV]
  | cons b w ih => 
    simp only [List.cons_append, runV]
    cases stepV z g b.toNat with
    | none => rfl
    | some g' => exact ih g'
theorem runV_pre (z : AsyV) (g : List Int) (w v : List Int) (h : runV z g w = none) : runV z g (w ++ v) = none := by
  induction w generalizing g with
  | nil => simp [runV] at h
  | cons b w ih =>
    simp only [List.cons_append, runV] at *
    cases hs : stepV z g b.toNat with
    | none => rfl
    | some g' => rw [hs] at h; exact ih g' h
theorem runV_len {z : AsyV} {g : List Int} : ∀ {w g'}, runV z g w = some g' → g'.length = g.length
  | [], g', h => by simp [runV] at h; rw [h]
  | a :: w, g', h => by
    simp only [runV] at h
    cases hs : stepV z g a.toNat with
    | none => rw [hs] at h; simp at h
    | some g1 => rw [hs] at h; rw [runV_len (g := g1) h, stepV_len hs]
def acceptsTraceV (z : AsyV) (w : List Int) : Bool × Int :=
  if isAsy z then (if overW z.places.length w then (match runV z z.start w with | some g => (decide (g ∈ z.final), 0) | none => (false, 0)) else (false, 2)) else (false, 1)
end Go.AM
