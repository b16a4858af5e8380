/-
  Several texts in one: FnAs FnAv FnAy FnAz FnAx FnBa FnBb FnBc FnBd FnBe.
-/
import Derived.Test.YthabclhldlikfaaGreatDoorFnMgA
import Derived.Test.YthabclhldlikfaaGreatDoorFnR
set_option linter.unusedVariables false
set_option linter.unusedSimpArgs false
set_option linter.unusedSectionVars false
set_option maxRecDepth 100000
set_option maxHeartbeats 1600000
namespace Go.AM
open Go.Proofs
def lexC : List Int → List Int → Int
  | [], [] => 0
  | [], _ :: _ => -1
  | _ :: _, [] => 1
  | a :: l, b :: m => if a < b then -1 else if b < a then 1 else lexC l m
theorem lexC_rng : ∀ l m, lexC l m = -1 ∨ lexC l m = 0 ∨ lexC l m = 1
  | [], [] => by simp [lexC]
  | [], _ :: _ => by simp [lexC]
  | _ :: _, [] => by simp [lexC]
  | a :: l, b :: m => by
    have := lexC_rng l m
    unfold lexC
    split
    · simp
    · split
      · simp
      · exact this
theorem lexC_self : ∀ l, lexC l l = 0
  | [] => rfl
  | a :: l => by unfold lexC; rw [if_neg (by omega), if_neg (by omega)]; exact lexC_self l
theorem lexC_zero : ∀ {l m}, lexC l m = 0 → l = m
  | [], [], _ => rfl
  | [], _ :: _, h => by simp [lexC] at h
  | _ :: _, [], h => by simp [lexC] at h
  | a :: l, b :: m, h => by
    unfold lexC at h
    split at h
    · simp at h
    · split at h
      · simp at h
      · rw [lexC_zero h, show a = b by omega]
theorem lexC_trans : ∀ {l m k}, lexC l m < 0 → lexC m k ≤ 0 → lexC l k < 0
  | [], [], _, h, _ => by simp [lexC] at h
  | [], _ :: _, [], _, h => by simp [lexC] at h
  | [], _ :: _, _ :: _, _, _ => by simp [lexC]
  | _ :: _, [], _, h, _ => by simp [lexC] at h
  | _ :: _, _ :: _, [], _, h => by simp [lexC] at h
  | a :: l, b :: m, c :: k, h1, h2 => by
    unfold lexC at h1 h2 ⊢
    by_cases e1 : a < b
    · by_cases e2 : b < c
      · rw [if_pos (by omega)]; omega
      · rw [if_neg e2] at h2
        by_cases e3 : c < b
        · rw [if_pos e3] at h2; omega
        · rw [if_pos (by omega)]; omega
    · rw [if_neg e1] at h1
      by_cases e4 : b < a
      · rw [if_pos e4] at h1; omega
      · rw [if_neg e4] at h1
        by_cases e2 : b < c
        · rw [if_pos (by omega)]; omega
        · rw [if_neg e2] at h2
          by_cases e3 : c < b
          · rw [if_pos e3] at h2; omega
          · rw [if_neg e3] at h2
            rw [if_neg (by omega), if_neg (by omega)]
            exact lexC_trans h1 h2
/-- At a place where the heads are the same. -/
theorem lexC_drop {l m : List Int} {i : Nat} (hl : i < l.length) (hm : i < m.length) : lexC (l.drop i) (m.drop i) = if nth l i < nth m i then -1 else if nth m i < nth l i then 1 else lexC (l.drop (i + 1)) (m.drop (i + 1)) := by
  rw [List.drop_eq_getElem_cons hl, List.drop_eq_getElem_cons hm, nth_at hl, nth_at hm]; rfl
theorem lexC_endl {l m : List Int} {i : Nat} (hl : l.length ≤ i) : lexC (l.drop i) (m.drop i) = if i < m.length then -1 else 0 := by
  rw [List.drop_eq_nil_of_le hl]
  split
  · rename_i h; rw [List.drop_eq_getElem_cons h]; rfl
  · rename_i h; rw [List.drop_eq_nil_of_le (by omega)]; rfl
theorem lexC_endr {l m : List Int} {i : Nat} (hl : i < l.length) (hm : m.length ≤ i) : lexC (l.drop i) (m.drop i) = 1 := by
  rw [List.drop_eq_getElem_cons hl, List.drop_eq_nil_of_le hm]; rfl
/-- The first place from `i` on that is not below. -/
def bsI (c : Nat → Int) (n : Nat) : Nat := ((List.range n).filter fun h => decide (c h < 0)).length
theorem bsI_of {c : Nat → Int} {i : Nat} : ∀ {n : Nat}, i ≤ n → (∀ h, h < i → c h < 0) → (∀ h, i ≤ h → h < n → ¬ c h < 0) → bsI c n = i
  | 0, h1, _, _ => by simp [bsI]; omega
  | n + 1, h1, h2, h3 => by
    unfold bsI
    rw [List.range_succ, List.filter_append, List.length_append]
    by_cases e : i = n + 1
    · have ih := bsI_of (c := c) (i := n) (n := n) (Nat.le_refl _) (fun h hh => h2 h (by omega)) (fun h a b => by omega)
      unfold bsI at ih
      rw [ih]
      simp [h2 n (by omega)]; omega
    · have ih := bsI_of (c := c) (i := i) (n := n) (by omega) h2 (fun h a b => h3 h a (by omega))
      unfold bsI at ih
      rw [ih]
      have := h3 n (by omega) (by omega)
      simp [this]
abbrev J3 := Int × List Int × List Int
def nthJ (l : List J3) (n : Nat) : J3 := l.getD n (0, [], [])
theorem nthJ_at {l : List J3} {n : Nat} (h : n < l.length) : nthJ l n = l[n] := by simp [nthJ, h]
theorem nthJ_mem {l : List J3} {n : Nat} (h : n < l.length) : nthJ l n ∈ l := by rw [nthJ_at h]; exact List.getElem_mem h
/-- The data of an asynchronous automaton. -/
structure AsyV where
  places : List Int
  sizes : List Int
  start : List Int
  joints : List J3
  final : List (List Int)
def isGlob (sizes g : List Int) : Bool := decide (g.length = sizes.length) && (List.range g.length).all fun p => decide (0 ≤ nth g p) && decide (nth g p ≤ nth sizes p - 1)
theorem isGlob_len {sizes g : List Int} (h : isGlob sizes g = true) : g.length = sizes.length := by simp [isGlob] at h; exact h.1
theorem isGlob_iff {sizes g : List Int} : isGlob sizes g = true ↔ g.length = sizes.length ∧ ∀ p, p < g.length → 0 ≤ nth g p ∧ nth g p ≤ nth sizes p - 1 := by simp [isGlob]
theorem isGlob_bad {sizes g : List Int} (p : Nat) (hp : p < g.length) (h : ¬ (0 ≤ nth g p ∧ nth g p ≤ nth sizes p - 1)) : isGlob sizes g = false := by
  cases e : isGlob sizes g
  · rfl
  · exact absurd ((isGlob_iff.1 e).2 p hp) h
theorem isGlob_badlen {sizes g : List Int} (h : g.length ≠ sizes.length) : isGlob sizes g = false := by
  cases e : isGlob sizes g
  · rfl
  · exact absurd (isGlob_len e) h
/-! The places of a mask. -/
def cntB (m : Int) (n : Nat) : Nat := ((List.range n).filter fun i => tb m i).length
theorem pick_len (l : List Int) (m : Int) (n : Nat) : (pick l m n).length = cntB m n := by simp [pick, cntB]
theorem cntB_succ (m : Int) (n : Nat) : cntB m (n + 1) = if tb m n then cntB m n + 1 else cntB m n := by
  unfold cntB
  rw [List.range_succ, List.filter_append, List.length_append]
  split
  · rename_i h; simp [h]
  · rename_i h; simp [h]
theorem pick_pre (l : List Int) (m : Int) {p n : Nat} (h : p ≤ n) : ∃ r, pick l m n = pick l m p ++ r := by
  obtain ⟨d, rfl⟩ : ∃ d, n = p + d := ⟨n - p, by omega⟩
  induction d with
  | zero => exact ⟨[], by simp⟩
  | succ d ih =>
    obtain ⟨r, hr⟩ := ih (by omega)
    rw [← Nat.add_assoc, pick_succ, hr]
    split
    · exact ⟨r ++ [nth l (p + d)], by simp⟩
    · exact ⟨r, rfl⟩
theorem nth_app_l {a b : List Int} {i : Nat} (h : i < a.length) : nth (a ++ b) i = nth a i := by
  unfold nth; rw [List.getD_eq_getElem?_getD, List.getD_eq_getElem?_getD, List.getElem?_append_left h]
theorem nth_app_at {a b : List Int} {x : Int} {i : Nat} (h : i = a.length) : nth (a ++ x :: b) i = x := by
  subst h; unfold nth; simp [List.getD_eq_getElem?_getD]
theorem pick_nth (l : List Int) (m : Int) {p n i : Nat} (h : p ≤ n) (hi : i < cntB m p) : nth (pick l m n) i = nth (pick l m p) i := by
  obtain ⟨r, hr⟩ := pick_pre l m h
  rw [hr, nth_app_l (by rw [pick_len]; exact hi)]
theorem pick_at (l : List Int) (m : Int) {p n : Nat} (h : p < n) (hb : tb m p = true) : nth (pick l m n) (cntB m p) = nth l p := by
  rw [pick_nth l m (show p + 1 ≤ n from h) (by rw [cntB_succ, if_pos hb]; omega), pick_succ, if_pos hb, nth_app_at (by rw [pick_len])]
theorem cntB_mono (m : Int) {p n : Nat} (h : p ≤ n) : cntB m p ≤ cntB m n := by
  obtain ⟨d, rfl⟩ : ∃ d, n = p + d := ⟨n - p, by omega⟩
  induction d with
  | zero => simp
  | succ d ih => have := ih (by omega); rw [← Nat.add_assoc, cntB_succ]; split <;> omega
theorem cntB_lt (m : Int) {p n : Nat} (h : p < n) (hb : tb m p = true) : cntB m p < cntB m n := by
  have := cntB_mono m (show p + 1 ≤ n from h)
  rw [cntB_succ, if_pos hb] at this; omega
theorem pick_all {l : List Int} {m : Int} (n : Nat) (hn : n ≤ l.length) (hb : ∀ i, i < n → tb m i = true) : pick l m n = l.take n := by
  induction n with
  | zero => simp [pick]
  | succ n ih => rw [pick_succ, if_pos (hb n (by omega)), ih (by omega) (fun i hi => hb i (by omega)), take_succ _ _ (by omega)]; rfl
theorem bits_len {m : Int} {n : Nat} (h63 : n ≤ 63) (hb : ∀ i, n ≤ i → tb m i = false) : (bitsOf m).length = cntB m n := by
  have := congrArg List.length (pick_bits (l := List.replicate n 0) (m := m) (by simpa using h63) (by simpa using hb))
  simpa [pick_len] using this
theorem bits_at {m : Int} {p : Nat} (h63 : p < 63) (hb : tb m p = true) : nth (bitsOf m) (cntB m p) = p := by
  unfold bitsOf cntB
  obtain ⟨r, hr⟩ : ∃ r, 63 = (p + 1) + r := ⟨63 - (p + 1), by omega⟩
  rw [hr, List.range_add, List.range_succ, List.filter_append, List.filter_append, List.map_append, List.map_append]
  simp only [hb, List.filter_cons_of_pos, List.filter_nil, List.map_cons, List.map_nil, List.append_assoc, List.singleton_append]
  exact nth_app_at (by simp)
/-- Numbers put at the places of a mask, in ascending order. -/
def putL (g : List Int) (bs : List Int) (to : List Int) : Nat → List Int
  | 0 => g
  | k + 1 => (putL g bs to k).set (nth bs k).toNat (nth to k)
@[simp] theorem putL_len (g bs to : List Int) (k : Nat) : (putL g bs to k).length = g.length := by
  induction k with
  | zero => rfl
  | succ k ih => simp [putL, ih]
/-! Joints. -/
def cmpJ (j k : J3) : Int := if j.1 ≠ k.1 then j.1 - k.1 else lexC j.2.1 k.2.1
theorem cmpJ_zero {j k : J3} : cmpJ j k = 0 ↔ j.1 = k.1 ∧ j.2.1 = k.2.1 := by
  unfold cmpJ
  split
  · rename_i h; constructor
    · intro h2; omega
    · intro h2; exact absurd h2.1 h
  · rename_i h
    have h : j.1 = k.1 := by simpa using h
    constructor
    · intro h2; exact ⟨h, lexC_zero h2⟩
    · intro h2; rw [h2.2]; exact lexC_self _
theorem cmpJ_trans {j k l : J3} (h1 : cmpJ j k < 0) (h2 : cmpJ k l ≤ 0) : cmpJ j l < 0 := by
  unfold cmpJ at *
  by_cases e1 : j.1 = k.1 <;> by_cases e2 : k.1 = l.1
  · rw [if_neg (by simpa using e1)] at h1
    rw [if_neg (by simpa using e2)] at h2
    rw [if_neg (by simp; omega)]
    exact lexC_trans h1 h2
  · rw [if_pos e2] at h2; rw [if_pos (by omega)]; omega
  · rw [if_pos e1] at h1; rw [if_pos (by omega)]; omega
  · rw [if_pos e1] at h1; rw [if_pos e2] at h2; rw [if_pos (by omega)]; omega
def jOk (z : AsyV) (i : Nat) : Bool :=
  decide (0 ≤ (nthJ z.joints i).1) && decide ((nthJ z.joints i).1 ≤ (z.places.length : Int) - 1) &&
  isGlob (pick z.sizes (nth z.places (nthJ z.joints i).1.toNat) z.sizes.length) (nthJ z.joints i).2.1 && isGlob (pick z.sizes (nth z.places (nthJ z.joints i).1.toNat) z.sizes.length) (nthJ z.joints i).2.2 &&
  (decide (i = 0) || decide (cmpJ (nthJ z.joints (i - 1)) (nthJ z.joints i) < 0))
def jointsOk (z : AsyV) : Bool := (List.range z.joints.length).all (jOk z) && decide (z.joints.length ≤ 64)
def fOk (z : AsyV) (i : Nat) : Bool := isGlob z.sizes (nthR z.final i) && (decide (i = 0) || decide (lexC (nthR z.final (i - 1)) (nthR z.final i) < 0))
def finalOk (z : AsyV) : Bool := (List.range z.final.length).all (fOk z) && decide (z.final.length ≤ 64)
def sizesOk (z : AsyV) : Bool := z.sizes.all fun x => decide (1 ≤ x) && decide (x ≤ 4)
def isAsy (z : AsyV) : Bool := arePl z.sizes.length z.places && sizesOk z && isGlob z.sizes z.start && jointsOk z && finalOk z
/-- An order of `n` things, told by neighbours. -/
theorem chain_lt {α : Type} {R : α → α → Prop} (tr : ∀ {a b c}, R a b → R b c → R a c) {f : Nat → α} {n : Nat} (h : ∀ i, i < n → 0 < i → R (f (i - 1)) (f i)) : ∀ i j, i < j → j < n → R (f i) (f j) := by
  intro i j
  induction j with
  | zero => intro h1; omega
  | succ j ih =>
    intro h1 h2
    have s := h (j + 1) h2 (by omega)
    rw [Nat.add_sub_cancel] at s
    by_cases e : i = j
    · subst e; exact s
    · exact tr (ih (by omega) (by omega)) s
theorem joints_lt {z : AsyV} (h : jointsOk z = true) {i j : Nat} (h1 : i < j) (h2 : j < z.joints.length) : cmpJ (nthJ z.joints i) (nthJ z.joints j) < 0 := by
  simp only [jointsOk, Bool.and_eq_true, List.all_eq_true, List.mem_range] at h
  refine chain_lt (R := fun a b => cmpJ a b < 0) (fun a b => cmpJ_trans a (by omega)) (f := nthJ z.joints) (n := z.joints.length) ?_ i j h1 h2
  intro i hi h0
  have := h.1 i hi
  simp only [jOk, Bool.and_eq_true, Bool.or_eq_true, decide_eq_true_eq] at this
  omega
theorem final_lt {z : AsyV} (h : finalOk z = true) {i j : Nat} (h1 : i < j) (h2 : j < z.final.length) : lexC (nthR z.final i) (nthR z.final j) < 0 := by
  simp only [finalOk, Bool.and_eq_true, List.all_eq_true, List.mem_range] at h
  refine chain_lt (R := fun a b => lexC a b < 0) (fun a b => lexC_trans a (by omega)) (f := nthR z.final) (n := z.final.length) ?_ i j h1 h2
  intro i hi h0
  have := h.1 i hi
  simp only [fOk, Bool.and_eq_true, Bool.or_eq_true, decide_eq_true_eq] at this
  omega
/-! Steps. -/
def ownP (z : AsyV) (g : List Int) (a : Nat) : List Int := pick g (nth z.places a) g.length
/-- The number of the joint of a letter in a global state. -/
def stepI (z : AsyV) (g : List Int) (a : Nat) : Option Nat := (List.range z.joints.length).find? fun i => decide ((nthJ z.joints i).1 = (a : Int)) && decide ((nthJ z.joints i).2.1 = ownP z g a)
def stepTo (z : AsyV) (g : List Int) (a i : Nat) : List Int := putL g (bitsOf (nth z.places a)) (nthJ z.joints i).2.2 (cntB (nth z.places a) g.length)
def stepV (z : AsyV) (g : List Int) (a : Nat) : Option (List Int) := (stepI z g a).map (stepTo z g a)
theorem stepV_len {z : AsyV} {g g' : List Int} {a : Nat} (h : stepV z g a = some g') : g'.length = g.length := by
  unfold stepV at h
  cases hs : stepI z g a with
  | none => rw [hs] at h; simp at h
  | some i => rw [hs] at h; simp [stepTo] at h; rw [← h]; simp
theorem find_range {n : Nat} {p : Nat → Bool} {i : Nat} (hi : i < n) (hp : p i = true) (hl : ∀ j, j < i → p j = false) : (List.range n).find? p = some i := by
  rw [List.find?_eq_some_iff_append]
  refine ⟨hp, List.range i, (List.range (n - i - 1)).map (fun j => i + 1 + j), ?_, by simpa using fun j hj => hl j hj⟩
  obtain ⟨d, rfl⟩ : ∃ d, n = i + 1 + d := ⟨n - i - 1, by omega⟩
  rw [List.range_add, List.range_succ, show i + 1 + d - i - 1 = d by omega]; simp
theorem find_range_none {n : Nat} {p : Nat → Bool} (h : ∀ j, j < n → p j = false) : (List.range n).find? p = none := by
  rw [List.find?_eq_none]; intro j hj; simp at hj; simp [h j hj]
/-- The joint that a search by halves finds. -/
theorem stepI_of {z : AsyV} (hz : jointsOk z = true) (g : List Int) (a : Nat) : stepI z g a =
    (let i := bsI (fun h => cmpJ (nthJ z.joints h) (a, ownP z g a, [])) z.joints.length
     if i < z.joints.length ∧ cmpJ (nthJ z.joints i) (a, ownP z g a, []) = 0 then some i else none) := by
  simp only
  by_cases he : ∃ i, i < z.joints.length ∧ cmpJ (nthJ z.joints i) (a, ownP z g a, []) = 0
  · obtain ⟨i, hi, h0⟩ := he
    have hb : bsI (fun h => cmpJ (nthJ z.joints h) (a, ownP z g a, [])) z.joints.length = i := by
      refine bsI_of (by omega) (fun h hh => cmpJ_trans (joints_lt hz hh hi) (by omega)) ?_
      intro h h1 h2 h3
      by_cases e : h = i
      · subst e; omega
      · have := cmpJ_trans (joints_lt hz (show i < h by omega) h2) (by omega : cmpJ (nthJ z.joints h) (a, ownP z g a, []) ≤ 0)
        omega
    rw [hb, if_pos ⟨hi, h0⟩]
    refine find_range hi ?_ ?_
    · have := cmpJ_zero.1 h0
      simpa using this
    · intro j hj
      have := cmpJ_trans (joints_lt hz hj hi) (by omega : cmpJ (nthJ z.joints i) (a, ownP z g a, []) ≤ 0)
      cases hp : (decide ((nthJ z.joints j).1 = (a : Int)) && decide ((nthJ z.joints j).2.1 = ownP z g a))
      · rfl
      · have : cmpJ (nthJ z.joints j) (a, ownP z g a, []) = 0 := cmpJ_zero.2 (by simpa using hp)
        omega
  · rw [if_neg (fun h => he ⟨_, h⟩)]
    refine find_range_none fun j hj => ?_
    cases hp : (decide ((nthJ z.joints j).1 = (a : Int)) && decide ((nthJ z.joints j).2.1 = ownP z g a))
    · rfl
    · exact absurd ⟨j, hj, cmpJ_zero.2 (by simpa using hp)⟩ he
theorem final_of {z : AsyV} (hz : finalOk z = true) (g : List Int) :
    (let i := bsI (fun h => lexC (nthR z.final h) g) z.final.length
     decide (i < z.final.length) && decide (lexC (nthR z.final i) g = 0)) = decide (g ∈ z.final) := by
  simp only
  by_cases he : g ∈ z.final
  · obtain ⟨i, hi, h0⟩ := List.mem_iff_getElem.1 he
    have h0 : nthR z.final i = g := by rw [nthR_at hi]; exact h0
    have hb : bsI (fun h => lexC (nthR z.final h) g) z.final.length = i := by
      refine bsI_of (by omega) (fun h hh => by have := final_lt hz hh hi; rw [h0] at this; exact this) ?_
      intro h h1 h2 h3
      by_cases e : h = i
      · subst e; rw [h0, lexC_self] at h3; omega
      · have := lexC_trans (final_lt hz (show i < h by omega) h2) (by omega : lexC (nthR z.final h) g ≤ 0)
        rw [h0, lexC_self] at this; omega
    rw [hb, h0, lexC_self]; simp [hi, he]
  · rw [decide_eq_false he]
    by_cases hi : bsI (fun h => lexC (nthR z.final h) g) z.final.length < z.final.length
    · have : ¬ lexC (nthR z.final (bsI (fun h => lexC (nthR z.final h) g) z.final.length)) g = 0 := fun h => he (by
        have := lexC_zero h
        rw [← this, nthR_at hi]; exact List.getElem_mem hi)
      simp [this]
    · simp [hi]
/-! Runs. -/
def runV (z : AsyV) (g : List Int) : List Int → Option (List Int)
  | [] => some g
  | a :: w => (stepV z g a.toNat).bind fun g' => runV z g' w
theorem runV_app (z : AsyV) (g : List Int) (w : List Int) (a : Int) : runV z g (w ++ [a]) = (runV z g w).bind fun g' => stepV z g' a.toNat := by
  induction w generalizing g with
  | nil => simp [runV]
  | cons b w ih => 
    simp only [List.cons_append, runV]
    cases stepV z g b.toNat with
    | none => rfl
    | some g' => exact ih g'
theorem runV_pre (z : AsyV) (g : List Int) (w v : List Int) (h : runV z g w = none) : runV z g (w ++ v) = none := by
  induction w generalizing g with
  | nil => simp [runV] at h
  | cons b w ih =>
    simp only [List.cons_append, runV] at *
    cases hs : stepV z g b.toNat with
    | none => rfl
    | some g' => rw [hs] at h; exact ih g' h
theorem runV_len {z : AsyV} {g : List Int} : ∀ {w g'}, runV z g w = some g' → g'.length = g.length
  | [], g', h => by simp [runV] at h; rw [h]
  | a :: w, g', h => by
    simp only [runV] at h
    cases hs : stepV z g a.toNat with
    | none => rw [hs] at h; simp at h
    | some g1 => rw [hs] at h; rw [runV_len (g := g1) h, stepV_len hs]
def acceptsTraceV (z : AsyV) (w : List Int) : Bool × Int :=
  if isAsy z then (if overW z.places.length w then (match runV z z.start w with | some g => (decide (g ∈ z.final), 0) | none => (false, 0)) else (false, 2)) else (false, 1)
/-! Elements of several cells. -/
theorem flat_length {α : Type} {f : α → List AV} {s : Nat} (hf : ∀ a, (f a).length = s) (l : List α) : (l.flatMap f).length = l.length * s := by
  induction l with
  | nil => simp
  | cons a l ih => simp [List.flatMap_cons, hf, ih, Nat.succ_mul]; omega
theorem flat_drop {α : Type} {f : α → List AV} {s : Nat} (hf : ∀ a, (f a).length = s) : ∀ (l : List α) (n : Nat), (l.flatMap f).drop (n * s) = (l.drop n).flatMap f
  | l, 0 => by simp
  | [], n + 1 => by simp
  | a :: l, n + 1 => by
    rw [List.flatMap_cons, show (n + 1) * s = s + n * s by rw [Nat.succ_mul]; omega, ← List.drop_drop, List.drop_left' (hf a), List.drop_succ_cons]
    exact flat_drop hf l n
theorem flat_window {α : Type} {f : α → List AV} {s : Nat} (hf : ∀ a, (f a).length = s) {l : List α} {n : Nat} (d : α) (h : n < l.length) : ((l.flatMap f).drop (n * s)).take s = f (l.getD n d) := by
  rw [flat_drop hf, List.drop_eq_getElem_cons h, List.flatMap_cons, List.take_left' (hf _)]
  simp [h]
def sizeB (P : Program) (t : TypeId) (s : Nat) : Bool := match telem P t with | some e => tok P e && (tsize P e == s) | none => false
attribute [simp] sizeB
theorem idx_flat {P : Program} {st : St} {t : TypeId} {nn : Bool} {α : Type} {f : α → List AV} {s : Nat} {l : List α} {c : IntKind} {i : Int} {k : Eff → Prop} (hs : 0 < s) (hf : ∀ a, (f a).length = s) (d : α) (h : sizeB P t s = true) :
    indexAddrOp P st t (.sl s nn (l.flatMap f)) (.val (.int c i)) k = (0 ≤ i ∧ i.toNat < l.length ∧ k { val := .ip (f (l.getD i.toNat d)) }) := by
  unfold sizeB at h
  split at h
  · rename_i e he
    simp only [Bool.and_eq_true, beq_iff_eq] at h
    unfold indexAddrOp
    have fl := flat_length hf l
    simp only [he, slOf2, slOf, h.1, h.2, true_and, fl]
    have key : ∀ n : Nat, (n + 1) * s ≤ l.length * s ↔ n < l.length := fun n => by rw [Nat.mul_le_mul_right_iff hs]; omega
    refine propext ⟨?_, ?_⟩
    · rintro ⟨_, h0, h1, h2⟩
      have h1 := (key _).1 h1
      refine ⟨h0, h1, ?_⟩
      rw [flat_window hf d h1] at h2; exact h2
    · rintro ⟨h0, h1, h2⟩
      refine ⟨hs, h0, (key _).2 h1, ?_⟩
      rw [flat_window hf d h1]; exact h2
  · cases h
/-! Rows and joints. -/
abbrev JIn := Int × (Bool × List Int) × (Bool × List Int) × Unit
def jof (y : JIn) : J3 := (y.1, y.2.1.2, y.2.2.1.2)
def rin (l : List (Bool × List Int)) : List AV := l.flatMap fun p => [.sl 1 p.1 (ints p.2)]
def jin (l : List JIn) : List AV := l.flatMap fun y => [iv y.1, .sl 1 y.2.1.1 (ints y.2.1.2), .sl 1 y.2.2.1.1 (ints y.2.2.1.2)]
def jcl (l : List J3) : List AV := l.flatMap fun y => [iv y.1, .sl 1 true (ints y.2.1), .sl 1 true (ints y.2.2)]
def jow (l : List J3) : List AV := l.flatMap fun y => [iv y.1, .own 1 true (ints y.2.1), .own 1 true (ints y.2.2)]
@[simp] theorem rin_length (l : List (Bool × List Int)) : (rin l).length = l.length := by rw [rin, flat_length (s := 1) (fun _ => rfl)]; simp
@[simp] theorem jin_length (l : List JIn) : (jin l).length = l.length * 3 := by rw [jin, flat_length (s := 3) (fun _ => rfl)]
@[simp] theorem jcl_length (l : List J3) : (jcl l).length = l.length * 3 := by rw [jcl, flat_length (s := 3) (fun _ => rfl)]
@[simp] theorem jow_length (l : List J3) : (jow l).length = l.length * 3 := by rw [jow, flat_length (s := 3) (fun _ => rfl)]
@[simp] theorem jcl_nil : jcl [] = [] := rfl
@[simp] theorem jow_nil : jow [] = [] := rfl
theorem jcl_cons (j : J3) (l : List J3) : jcl (j :: l) = iv j.1 :: .sl 1 true (ints j.2.1) :: .sl 1 true (ints j.2.2) :: jcl l := rfl
theorem jow_cons (j : J3) (l : List J3) : jow (j :: l) = iv j.1 :: .own 1 true (ints j.2.1) :: .own 1 true (ints j.2.2) :: jow l := rfl
theorem jow_append (l m : List J3) : jow (l ++ m) = jow l ++ jow m := by simp [jow]
def nthI (l : List JIn) (n : Nat) : JIn := l.getD n (0, (false, []), (false, []), ())
def nthF (l : List (Bool × List Int)) (n : Nat) : Bool × List Int := l.getD n (false, [])
theorem nthI_at {l : List JIn} {n : Nat} (h : n < l.length) : nthI l n = l[n] := by simp [nthI, h]
theorem nthF_at {l : List (Bool × List Int)} {n : Nat} (h : n < l.length) : nthF l n = l[n] := by simp [nthF, h]
theorem nthI_mem {l : List JIn} {n : Nat} (h : n < l.length) : nthI l n ∈ l := by rw [nthI_at h]; exact List.getElem_mem h
theorem nthF_mem {l : List (Bool × List Int)} {n : Nat} (h : n < l.length) : nthF l n ∈ l := by rw [nthF_at h]; exact List.getElem_mem h
theorem idx_rin {P : Program} {st : St} {t : TypeId} {nn : Bool} {l : List (Bool × List Int)} {c : IntKind} {i : Int} {k : Eff → Prop} (h : sizeB P t 1 = true) :
    indexAddrOp P st t (.sl 1 nn (rin l)) (.val (.int c i)) k = (0 ≤ i ∧ i.toNat < l.length ∧ k { val := .ip [.sl 1 (nthF l i.toNat).1 (ints (nthF l i.toNat).2)] }) := idx_flat (s := 1) (by omega) (fun _ => rfl) _ h
theorem idx_jin {P : Program} {st : St} {t : TypeId} {nn : Bool} {l : List JIn} {c : IntKind} {i : Int} {k : Eff → Prop} (h : sizeB P t 3 = true) :
    indexAddrOp P st t (.sl 3 nn (jin l)) (.val (.int c i)) k = (0 ≤ i ∧ i.toNat < l.length ∧ k { val := .ip [iv (nthI l i.toNat).1, .sl 1 (nthI l i.toNat).2.1.1 (ints (nthI l i.toNat).2.1.2), .sl 1 (nthI l i.toNat).2.2.1.1 (ints (nthI l i.toNat).2.2.1.2)] }) := idx_flat (s := 3) (by omega) (fun _ => rfl) _ h
theorem idx_jcl {P : Program} {st : St} {t : TypeId} {nn : Bool} {l : List J3} {c : IntKind} {i : Int} {k : Eff → Prop} (h : sizeB P t 3 = true) :
    indexAddrOp P st t (.sl 3 nn (jcl l)) (.val (.int c i)) k = (0 ≤ i ∧ i.toNat < l.length ∧ k { val := .ip [iv (nthJ l i.toNat).1, .sl 1 true (ints (nthJ l i.toNat).2.1), .sl 1 true (ints (nthJ l i.toNat).2.2)] }) := idx_flat (s := 3) (by omega) (fun _ => rfl) _ h
attribute [simp high] idx_rin idx_jin idx_jcl
@[simp] theorem jcl_nrf (l : List J3) : nrfL (jcl l) = true := by
  induction l with
  | nil => rfl
  | cons r rs ih => simp [jcl_cons, nrfL, nrf, ih]
@[simp] theorem jow_nrf (l : List J3) : nrfL (jow l) = true := by
  induction l with
  | nil => rfl
  | cons r rs ih => simp [jow_cons, nrfL, nrf, ih]
@[simp] theorem jow_pur (l : List J3) : purL (jow l) = true := by
  induction l with
  | nil => rfl
  | cons r rs ih => simp [jow_cons, purL, pur, ih]
@[simp] theorem jow_view (l : List J3) : viewL (jow l) = jcl l := by
  induction l with
  | nil => rfl
  | cons r rs ih => simp [jow_cons, jcl_cons, viewL, view, ih]
@[simp] theorem jcl_view (l : List J3) : viewL (jcl l) = jcl l := by
  induction l with
  | nil => rfl
  | cons r rs ih => simp [jcl_cons, viewL, view, ih]
@[simp ↓ high] theorem jcl_cpy (l : List J3) : (jcl l).all cpy = true := by simp [jcl, cpy]
@[simp ↓ high] theorem jcl_one (l : List J3) : (jcl l).all one = true := by simp [jcl, one]
@[simp ↓ high] theorem jow_one (l : List J3) : (jow l).all one = true := by simp [jow, one]
/-! Sizes. -/
def totF : List (Bool × List Int) → Nat
  | [] => 0
  | r :: rs => r.2.length + totF rs
def totJ : List JIn → Nat
  | [] => 0
  | r :: rs => r.2.1.2.length + r.2.2.1.2.length + totJ rs
theorem totF_snoc (rs : List (Bool × List Int)) (r : Bool × List Int) : totF (rs ++ [r]) = totF rs + r.2.length := by
  induction rs with
  | nil => simp [totF]
  | cons x rs ih => simp [totF, ih]; omega
theorem totJ_snoc (rs : List JIn) (r : JIn) : totJ (rs ++ [r]) = totJ rs + (r.2.1.2.length + r.2.2.1.2.length) := by
  induction rs with
  | nil => simp [totJ]
  | cons x rs ih => simp [totJ, ih]; omega
theorem totF_le (rs : List (Bool × List Int)) : ∀ i, totF (rs.take i) ≤ totF rs := by
  induction rs with
  | nil => intro i; simp [totF]
  | cons r rs ih =>
    intro i
    cases i with
    | zero => simp [totF]
    | succ i => simp only [List.take_succ_cons, totF]; have := ih i; omega
theorem totJ_le (rs : List JIn) : ∀ i, totJ (rs.take i) ≤ totJ rs := by
  induction rs with
  | nil => intro i; simp [totJ]
  | cons r rs ih =>
    intro i
    cases i with
    | zero => simp [totJ]
    | succ i => simp only [List.take_succ_cons, totJ]; have := ih i; omega
theorem takeF (rs : List (Bool × List Int)) (i : Nat) (h : i < rs.length) : rs.take (i + 1) = rs.take i ++ [nthF rs i] := by rw [List.take_succ_eq_append_getElem h, nthF_at h]
theorem takeI (rs : List JIn) (i : Nat) (h : i < rs.length) : rs.take (i + 1) = rs.take i ++ [nthI rs i] := by rw [List.take_succ_eq_append_getElem h, nthI_at h]
def RowsIn (l : List (Bool × List Int)) : Prop := l.length ≤ maxLen ∧ ∀ r ∈ l, Int64SIn r.2
def JointsIn (l : List JIn) : Prop := l.length ≤ maxLen ∧ ∀ j ∈ l, I64 j.1 ∧ Int64SIn j.2.1.2 ∧ Int64SIn j.2.2.1.2
def RowsOkF (l : List (Bool × List Int)) : Prop := l.length ≤ 1048576 ∧ ∀ r ∈ l, ListOk r.2
def JointsOk (l : List JIn) : Prop := l.length ≤ 1048576 ∧ ∀ j ∈ l, I64 j.1 ∧ ListOk j.2.1.2 ∧ ListOk j.2.2.1.2
theorem szInt64SSL (nn : Bool) (l : List (Bool × List Int)) (left : Int) (h : RowsIn l) (h0 : 0 ≤ left) (h1 : left ≤ 1048576) : ACalls1 Tryz.prog 10 [.sl 1 nn (rin l), iv left] (iv (szI left (l.length + totF l))) := by
  have hmx := h.1
  unfold maxLen at hmx
  refine walk (fun _ => false) mixed Go.Proofs.Tryz.func10 rfl rfl rfl (by kernel_rfl) rfl (by simp) (by kernel_rfl) ?_
  simp
  rw [wrap_id _ (by omega) (by omega)]
  refine ⟨fun g => by unfold szI; rw [if_pos (by omega)], fun g => ?_⟩
  refine awp_loop2 [0] [] (fun i : Nat => [(5, iv i), (1, iv (left - l.length - totF (l.take i)))]) (fun _ => []) (fun i => i ≤ l.length ∧ 0 ≤ left - l.length - (totF (l.take i) : Int)) (fun i => l.length - i) 0 (weak_mk some (by simp [totF]) (by simp) rfl) (by simp [totF]; omega) ?_
  rintro i ⟨hi, hp⟩
  have ht := totF_le l i
  by_cases hlt : i < l.length
  · have ht2 := totF_le l (i + 1)
    have hs : totF (l.take (i + 1)) = totF (l.take i) + (nthF l i).2.length := by rw [takeF l i hlt, totF_snoc]
    have hm := h.2 _ (nthF_mem hlt)
    simp [hlt]
    refine ⟨_, szInt64S_spec _ (nthF l i).2 _ hm.1 (by omega) (by omega), ?_⟩
    simp
    constructor
    · intro g2
      unfold szI at *
      rw [if_pos (by split at g2 <;> omega)]
    · intro g2
      have e : szI (left - l.length - totF (l.take i)) (nthF l i).2.length = left - l.length - totF (l.take (i + 1)) := by unfold szI at *; split at g2 <;> omega
      rw [e] at g2 ⊢
      simp [wrap_id ((i : Int) + 1) (by omega) (by omega)]
      exact Round.mk (i + 1) (weak_mk some (by simp) (by simp) rfl) ⟨hlt, by omega⟩ (by omega)
  · obtain rfl : i = l.length := by omega
    simp
    unfold szI
    rw [List.take_length] at *
    rw [if_neg (by omega)]; omega
/-- Cells of joints that are not there yet. -/
def jz (n : Nat) : List AV := (List.replicate n [iv 0, AV.val (.slice none 0 0), AV.val (.slice none 0 0)]).flatten
@[simp] theorem jz_length (n : Nat) : (jz n).length = n * 3 := by
  induction n with
  | zero => rfl
  | succ n ih => simp [jz, List.replicate_succ, Nat.succ_mul] at *
theorem jz_succ (n : Nat) : jz (n + 1) = iv 0 :: .val (.slice none 0 0) :: .val (.slice none 0 0) :: jz n := by simp [jz, List.replicate_succ]
theorem jow_put (L : List J3) (k : Nat) (j : J3) (i : Nat) (hi : L.length = i) :
    List.take (i * 3) (jow L ++ jz (k + 1)) ++ iv j.1 :: AV.own 1 true (ints j.2.1) :: AV.own 1 true (ints j.2.2) :: List.drop (i * 3 + 3) (jow L ++ jz (k + 1)) = jow (L ++ [j]) ++ jz k := by
  have e : i * 3 = (jow L).length := by simp [hi]
  rw [List.take_left' (by rw [e]), ← List.drop_drop, List.drop_left' (by rw [e]), jow_append, jz_succ]
  simp [jow]
/-- Rows that are not there yet. -/
def rz (n : Nat) : List AV := List.replicate n (AV.val (.slice none 0 0))
@[simp] theorem rz_length (n : Nat) : (rz n).length = n := by simp [rz]
theorem rz_succ (n : Nat) : rz (n + 1) = .val (.slice none 0 0) :: rz n := rfl
theorem orows_put (L : List (List Int)) (k : Nat) (j : List Int) (i : Nat) (hi : L.length = i) :
    List.take i (orows true L ++ rz (k + 1)) ++ AV.own 1 true (ints j) :: List.drop (i + 1) (orows true L ++ rz (k + 1)) = orows true (L ++ [j]) ++ rz k := by
  have e : i = (orows true L).length := by simp [hi]
  rw [List.take_left' (by rw [e]), ← List.drop_drop, List.drop_left' (by rw [e]), rz_succ]
  simp [← orows_snoc]
theorem toInt64SSL (nn : Bool) (l : List (Bool × List Int)) (h : RowsOkF l) : ACalls1 Tryz.prog 13 [.sl 1 nn (rin l)] (.own 1 true (orows true (l.map Prod.snd))) := by
  have hl := h.1
  refine walk (fun _ => false) mixed Go.Proofs.Tryz.func13 rfl rfl rfl (by kernel_rfl) rfl (by simp) (by kernel_rfl) ?_
  simp
  repeat (refine And.intro (by omega) ?_)
  refine awp_loop2 [0, 3] [] (fun i : Nat => [(4, iv i)]) (fun i => [(7, .own 1 true (orows true ((l.take i).map Prod.snd) ++ rz (l.length - i)))]) (fun i => i ≤ l.length) (fun i => l.length - i) 0 (weak_mk some (by simp) (by simp [rz]) rfl) (by simp) ?_
  intro i hi
  by_cases hlt : i < l.length
  · have hm := h.2 _ (nthF_mem hlt)
    obtain ⟨k, hk⟩ : ∃ k, l.length - i = k + 1 := ⟨l.length - i - 1, by omega⟩
    simp [hlt]
    refine ⟨_, toInt64S_spec _ (nthF l i).2 hm.1, ?_⟩
    simp [hlt, wrap_id ((i : Int) + 1) (by omega) (by omega)]
    refine ⟨by omega, ?_⟩
    have ep := orows_put ((l.take i).map Prod.snd) k (nthF l i).2 i (by simp; omega)
    refine Round.mk (i + 1) (weak_mk some (by simp) ?_ rfl) hlt (by omega)
    have e2 : (l.map Prod.snd).take (i + 1) = (l.map Prod.snd).take i ++ [(nthF l i).2] := by rw [← List.map_take, ← List.map_take, takeF l i hlt]; simp
    simp only [List.map_take] at ep
    rw [e2, show l.length - (i + 1) = k by omega, ← ep, hk]
    simp
  · obtain rfl : i = l.length := by omega
    simp [rz]
/-! Automata. -/
structure AsyI where
  places : List Int
  sizes : List Int
  start : List Int
  joints : List JIn
  final : List (Bool × List Int)
def AsyI.v (z : AsyI) : AsyV := ⟨z.places, z.sizes, z.start, z.joints.map jof, z.final.map Prod.snd⟩
@[reducible] def asyIn (a b c d e : Bool) (z : AsyI) : AV := .agg [.sl 1 a (ints z.places), .sl 1 b (ints z.sizes), .sl 1 c (ints z.start), .sl 3 d (jin z.joints), .sl 1 e (rin z.final)]
@[reducible] def asySl (z : AsyV) : AV := .agg [.sl 1 true (ints z.places), .sl 1 true (ints z.sizes), .sl 1 true (ints z.start), .sl 3 true (jcl z.joints), .sl 1 true (srows true z.final)]
@[reducible] def asyOw (z : AsyV) : AV := .agg [.own 1 true (ints z.places), .own 1 true (ints z.sizes), .own 1 true (ints z.start), .own 3 true (jow z.joints), .own 1 true (orows true z.final)]
def AsynchronousIn (z : AsyI) : Prop := Int64SIn z.places ∧ Int64SIn z.sizes ∧ Int64SIn z.start ∧ JointsIn z.joints ∧ RowsIn z.final
def AsyOk (z : AsyV) : Prop := ListOk z.places ∧ ListOk z.sizes ∧ ListOk z.start ∧ (z.joints.length ≤ 1048576 ∧ ∀ j ∈ z.joints, I64 j.1 ∧ ListOk j.2.1 ∧ ListOk j.2.2) ∧ z.final.length ≤ 1048576 ∧ ∀ r ∈ z.final, ListOk r
def AsynchronousOk (z : AsyI) : Prop := JointsOk z.joints ∧ RowsOkF z.final ∧ AsyOk z.v ∧ totJ z.joints ≤ 1048576 ∧ totF z.final ≤ 1048576 ∧ z.places.length + z.sizes.length + z.start.length ≤ 1048576
def szA1 (left : Int) (z : AsyI) : Int := szI left z.places.length
def szA2 (left : Int) (z : AsyI) : Int := szI (szA1 left z) z.sizes.length
def szA3 (left : Int) (z : AsyI) : Int := szI (szA2 left z) z.start.length
def szA4 (left : Int) (z : AsyI) : Int := szI (szA3 left z) (z.joints.length + totJ z.joints)
def szA5 (left : Int) (z : AsyI) : Int := szI (szA4 left z) (z.final.length + totF z.final)
def szAsynchronousJ (left : Int) (z : AsyI) : Int := if szA1 left z < 0 then -1 else if szA2 left z < 0 then -1 else if szA3 left z < 0 then -1 else if szA4 left z < 0 then -1 else if szA5 left z < 0 then -1 else szA5 left z
theorem szI_le' {l : Int} {n : Nat} (h : l ≤ 1048576) : szI l n ≤ 1048576 := by unfold szI; split <;> omega
theorem totF_mem {l : List (Bool × List Int)} : ∀ r ∈ l, r.2.length ≤ totF l := by
  induction l with
  | nil => simp
  | cons x l ih => intro r hr; simp only [totF]; rcases List.mem_cons.1 hr with rfl | hr
                   · omega
                   · have := ih r hr; omega
theorem totJ_mem {l : List JIn} : ∀ r ∈ l, r.2.1.2.length + r.2.2.1.2.length ≤ totJ l := by
  induction l with
  | nil => simp
  | cons x l ih => intro r hr; simp only [totJ]; rcases List.mem_cons.1 hr with rfl | hr
                   · omega
                   · have := ih r hr; omega
theorem total_totF (l : List (Bool × List Int)) : total (l.map Prod.snd) = totF l := by
  induction l with
  | nil => rfl
  | cons x l ih => simp [total, totF, ih]
theorem szI_pos {l : Int} {n : Nat} (h : 0 ≤ szI l n) : szI l n = l - n := by unfold szI at *; split at h <;> simp_all; omega
theorem szAsynchronousL_le {z : AsyI} {left : Int} (h : AsynchronousIn z) (h1 : left ≤ 1048576) (h2 : 0 ≤ szAsynchronousJ left z) : AsynchronousOk z ∧ szAsynchronousJ left z ≤ 1048576 := by
  unfold szAsynchronousJ at h2 ⊢
  by_cases g1 : szA1 left z < 0
  · rw [if_pos g1] at h2; omega
  by_cases g2 : szA2 left z < 0
  · rw [if_neg g1, if_pos g2] at h2; omega
  by_cases g3 : szA3 left z < 0
  · rw [if_neg g1, if_neg g2, if_pos g3] at h2; omega
  by_cases g4 : szA4 left z < 0
  · rw [if_neg g1, if_neg g2, if_neg g3, if_pos g4] at h2; omega
  by_cases g5 : szA5 left z < 0
  · rw [if_neg g1, if_neg g2, if_neg g3, if_neg g4, if_pos g5] at h2; omega
  rw [if_neg g1, if_neg g2, if_neg g3, if_neg g4, if_neg g5] at h2 ⊢
  have e1 : szA1 left z = left - z.places.length := szI_pos (by unfold szA1 at g1; omega)
  have e2 : szA2 left z = szA1 left z - z.sizes.length := szI_pos (by unfold szA2 at g2; omega)
  have e3 : szA3 left z = szA2 left z - z.start.length := szI_pos (by unfold szA3 at g3; omega)
  have e4 : szA4 left z = szA3 left z - (z.joints.length + totJ z.joints : Nat) := szI_pos (by unfold szA4 at g4; omega)
  have e5 : szA5 left z = szA4 left z - (z.final.length + totF z.final : Nat) := szI_pos (by unfold szA5 at g5; omega)
  have hj : JointsOk z.joints := ⟨by omega, fun j hj => by
    have := totJ_mem j hj
    have hh := h.2.2.2.1.2 j hj
    exact ⟨hh.1, listOk_of hh.2.1 (by omega), listOk_of hh.2.2 (by omega)⟩⟩
  have hf : RowsOkF z.final := ⟨by omega, fun r hr => by
    have := totF_mem r hr
    exact listOk_of (h.2.2.2.2.2 r hr) (by omega)⟩
  have p1 : ListOk z.places := listOk_of h.1 (by omega)
  have p2 : ListOk z.sizes := listOk_of h.2.1 (by omega)
  have p3 : ListOk z.start := listOk_of h.2.2.1 (by omega)
  refine ⟨⟨hj, hf, ⟨p1, p2, p3, ?_, ?_⟩, by omega, by omega, by omega⟩, by omega⟩
  · refine ⟨by simpa [AsyI.v] using hj.1, ?_⟩
    intro j hj2
    obtain ⟨y, hy, rfl⟩ := List.mem_map.1 hj2
    exact hj.2 y hy
  · refine ⟨by simpa [AsyI.v] using hf.1, ?_⟩
    intro r hr
    obtain ⟨y, hy, rfl⟩ := List.mem_map.1 hr
    exact hf.2 y hy
theorem eqRowsL (rs : List (List Int)) (hl : rs.length ≤ 1048576) (h : ∀ r ∈ rs, ListOk r) : ACalls1 Tryz.prog 17 [.sl 1 true (srows true rs), .sl 1 true (srows true rs)] (bv true) := by
  refine walk (fun _ => false) mixed Go.Proofs.Tryz.func17 rfl rfl rfl (by kernel_rfl) rfl (by simp) (by kernel_rfl) ?_
  simp
  refine awp_loop2 [0, 1] [] (fun k : Nat => [(5, iv k)]) (fun _ => []) (fun k => k ≤ rs.length) (fun k => rs.length - k) 0 (weak_mk some (by simp) (by simp) rfl) (by simp) ?_
  intro k hk
  by_cases hlt : k < rs.length
  · simp [hlt]
    refine ⟨_, eqInt64SL _ _ _ (h _ (nthR_mem hlt)), ?_⟩
    simp [wrap_id ((k : Int) + 1) (by omega) (by omega)]
    exact Round.mk (k + 1) (weak_mk some (by simp) (by simp) rfl) hlt (by omega)
  · simp [hlt]
def SzOk (z : AsyV) : Prop := z.sizes.length ≤ 4 ∧ ∀ x ∈ z.sizes, 1 ≤ x ∧ x ≤ 4
theorem SzOk.at {z : AsyV} (h : SzOk z) {p : Nat} (hp : p < z.sizes.length) : 1 ≤ nth z.sizes p ∧ nth z.sizes p ≤ 4 := h.2 _ (nth_mem hp)
theorem l01Same_spec (a b : Bool) (l m : List Int) (hl : Fits l) (hm : Fits m) : ACalls1 Tryz.prog 142 [.sl 1 a (ints l), .sl 1 b (ints m)] (bv (decide (l = m))) := by
  unfold Fits at hl hm
  refine walk (fun _ => false) mixed Go.Proofs.Tryz.func142 rfl rfl rfl (by kernel_rfl) rfl (by simp) (by kernel_rfl) ?_
  simp
  refine ⟨fun h e => h (by rw [e]), fun he => ?_⟩
  refine awp_loop2 [0, 1] [] (fun k : Nat => [(5, iv k)]) (fun _ => []) (fun k => k ≤ l.length ∧ l.take k = m.take k) (fun k => l.length - k) 0 (weak_mk some (by simp) (by simp) rfl) (by simp) ?_
  rintro k ⟨hk, ht⟩
  by_cases hlt : k < l.length
  · have hlt2 : k < m.length := by omega
    simp [hlt, hlt2]
    refine ⟨fun hne e => hne (by rw [e]), fun hee => ?_⟩
    simp [wrap_id ((k : Int) + 1) (by omega) (by omega)]
    exact Round.mk (k + 1) (weak_mk some (by simp) (by simp) rfl) ⟨hlt, by rw [take_succ _ _ hlt, take_succ _ _ hlt2, ht]; exact congrArg _ (congrArg (fun x => [x]) hee)⟩ (by omega)
  · obtain rfl : k = l.length := by omega
    rw [List.take_length, he, List.take_length] at ht
    simp [ht]
theorem l01Less_spec (a b : Bool) (l m : List Int) (hl : Fits l) (hm : Fits m) : ACalls1 Tryz.prog 200 [.sl 1 a (ints l), .sl 1 b (ints m)] (bv (decide (lexC l m < 0))) := by
  unfold Fits at hl hm
  refine walk (fun _ => false) mixed Go.Proofs.Tryz.func200 rfl rfl rfl (by kernel_rfl) rfl (by simp) (by kernel_rfl) ?_
  simp
  refine awp_loop2 [0, 1] [] (fun k : Nat => [(5, iv k)]) (fun _ => []) (fun k => k ≤ l.length ∧ k ≤ m.length ∧ lexC l m = lexC (l.drop k) (m.drop k)) (fun k => l.length - k) 0 (weak_mk some (by simp) (by simp) rfl) (by simp) ?_
  rintro k ⟨hk, hk2, he⟩
  by_cases hlt : k < l.length
  · by_cases hlt2 : k < m.length
    · rw [lexC_drop hlt hlt2] at he
      simp [hlt, hlt2]
      refine ⟨fun hne => ?_, fun hne => ?_⟩
      · rw [he]
        by_cases h1 : nth l k < nth m k
        · simp [h1]
        · simp [h1, show nth m k < nth l k by omega]
      · simp [wrap_id ((k : Int) + 1) (by omega) (by omega)]
        exact Round.mk (k + 1) (weak_mk some (by simp) (by simp) rfl) ⟨hlt, hlt2, by rw [he, if_neg (by omega), if_neg (by omega)]⟩ (by omega)
    · simp [hlt, hlt2]
      rw [lexC_endr hlt (by omega)] at he
      rw [he]; simp; omega
  · rw [lexC_endl (by omega)] at he
    simp [hlt]
    rw [he]
    by_cases h1 : k < m.length
    · simp [h1]; omega
    · simp [h1]; omega
theorem isAsy_facts {z : AsyV} (h : isAsy z = true) : SzOk z ∧ (∀ a, a < z.places.length → M (nth z.places a) ∧ ∀ i, z.sizes.length ≤ i → tb (nth z.places a) i = false) ∧ isGlob z.sizes z.start = true ∧ jointsOk z = true ∧ finalOk z = true ∧ z.places.length ≤ 8 := by
  simp only [isAsy, Bool.and_eq_true, sizesOk, arePl, List.all_eq_true, decide_eq_true_eq] at h
  obtain ⟨⟨⟨⟨⟨⟨⟨h1, h2⟩, h3⟩, h4⟩, h5⟩, h6⟩, h7⟩, h8⟩ := h
  refine ⟨⟨by omega, fun x hx => by have := h5 x hx; exact this⟩, fun a ha => ?_, h6, h7, h8, by omega⟩
  have := h4 _ (nth_mem ha)
  exact ⟨full_M (n := z.sizes.length) (by omega) (by omega) this.2, fun i hi => tb_of_le (n := z.sizes.length) (by omega) (by omega) this.2 hi⟩
theorem joint_facts {z : AsyV} (h : jointsOk z = true) {i : Nat} (hi : i < z.joints.length) : (∃ a : Nat, (nthJ z.joints i).1 = a ∧ a < z.places.length ∧ (nthJ z.joints i).2.1.length = cntB (nth z.places a) z.sizes.length ∧ (nthJ z.joints i).2.2.length = cntB (nth z.places a) z.sizes.length) := by
  simp only [jointsOk, Bool.and_eq_true, List.all_eq_true, List.mem_range] at h
  have := h.1 i hi
  simp only [jOk, Bool.and_eq_true, Bool.or_eq_true, decide_eq_true_eq] at this
  obtain ⟨⟨⟨⟨h1, h2⟩, h3⟩, h4⟩, _⟩ := this
  obtain ⟨a, ha⟩ := Int.eq_ofNat_of_zero_le h1
  rw [ha] at h2 h3 h4
  exact ⟨a, ha, by omega, by rw [isGlob_len h3, pick_len]; rfl, by rw [isGlob_len h4, pick_len]; rfl⟩
theorem l12Has_spec (a b : Bool) (rs : List (List Int)) (hl : rs.length ≤ 1048576) (h : ∀ r ∈ rs, ListOk r) (g : List Int) (hg : Fits g) : ACalls1 Tryz.prog 252 [.sl 1 a (srows true rs), .sl 1 b (ints g)] (bv (decide (g ∈ rs))) := by
  refine walk (fun _ => false) mixed Go.Proofs.Tryz.func252 rfl rfl rfl (by kernel_rfl) rfl (by simp) (by kernel_rfl) ?_
  simp
  refine awp_loop2 [0, 1] [] (fun k : Nat => [(5, iv k)]) (fun _ => []) (fun k => k ≤ rs.length ∧ ∀ j, j < k → nthR rs j ≠ g) (fun k => rs.length - k) 0 (weak_mk some (by simp) (by simp) rfl) (by simp) ?_
  rintro k ⟨hk, hall⟩
  by_cases hlt : k < rs.length
  · simp [hlt]
    refine ⟨_, l01Same_spec _ _ _ _ (h _ (nthR_mem hlt)).1 hg, ?_⟩
    simp
    refine ⟨fun he => ?_, fun he => ?_⟩
    · rw [← he]; simpa using nthR_mem hlt
    · simp [wrap_id ((k : Int) + 1) (by omega) (by omega)]
      refine Round.mk (k + 1) (weak_mk some (by simp) (by simp) rfl) ⟨hlt, fun j hj => ?_⟩ (by omega)
      by_cases e : j = k
      · subst e; exact he
      · exact hall j (by omega)
  · obtain rfl : k = rs.length := by omega
    simp
    intro hm
    obtain ⟨j, hj, he⟩ := List.mem_iff_getElem.1 hm
    exact hall j hj (by rw [nthR_at hj]; exact he)
theorem overW_facts {n : Nat} {w : List Int} (h : overW n w = true) : w.length ≤ 24 ∧ ∀ k, k < w.length → ∃ a : Nat, nth w k = a ∧ a < n := by
  simp only [overW, Bool.and_eq_true, List.all_eq_true, decide_eq_true_eq] at h
  refine ⟨by omega, fun k hk => ?_⟩
  have := h.2 _ (nth_mem hk)
  obtain ⟨a, ha⟩ := Int.eq_ofNat_of_zero_le this.1
  exact ⟨a, ha, by omega⟩
theorem runV_succ (z : AsyV) (g w : List Int) {k : Nat} (hk : k < w.length) : runV z g (w.take (k + 1)) = (runV z g (w.take k)).bind fun g' => stepV z g' (nth w k).toNat := by
  rw [take_succ _ _ hk]; exact runV_app z g _ _
theorem runV_fail {z : AsyV} {g w : List Int} {k : Nat} (h : runV z g (w.take k) = none) : runV z g w = none := by
  have := runV_pre z g (w.take k) (w.drop k) h
  rwa [List.take_append_drop] at this
theorem isNaN_spec (a : Int) : ACalls1 Tryz.prog 245 [iv a] (bv false) := by
  refine walk (fun _ => false) mixed Go.Proofs.Tryz.func245 rfl rfl rfl (by kernel_rfl) rfl (by simp) (by kernel_rfl) ?_
  simp
theorem cmpCompare_spec (a b : Int) : ACalls1 Tryz.prog 221 [iv a, iv b] (iv (if a < b then -1 else if b < a then 1 else 0)) := by
  refine walk (fun _ => false) mixed Go.Proofs.Tryz.func221 rfl rfl rfl (by kernel_rfl) rfl (by simp) (by kernel_rfl) ?_
  simp
  refine ⟨_, isNaN_spec a, ?_⟩
  simp
  refine ⟨_, isNaN_spec b, ?_⟩
  by_cases h : a < b
  · simp [h]
  · by_cases h2 : b < a
    · simp [h, h2]
    · simp [h, h2]
theorem slCompare_spec (a b : Bool) (l m : List Int) (hl : Fits l) (hm : Fits m) : ACalls1 Tryz.prog 201 [.sl 1 a (ints l), .sl 1 b (ints m)] (iv (lexC l m)) := by
  unfold Fits at hl hm
  refine walk (fun _ => false) mixed Go.Proofs.Tryz.func201 rfl rfl rfl (by kernel_rfl) rfl (by simp) (by kernel_rfl) ?_
  simp
  refine awp_loop2 [0, 1, 9, 10] [] (fun k : Nat => [(11, iv k)]) (fun _ => []) (fun k => k ≤ l.length ∧ k ≤ m.length ∧ lexC l m = lexC (l.drop k) (m.drop k)) (fun k => l.length - k) 0 (weak_mk some (by simp) (by simp) rfl) (by simp) ?_
  rintro k ⟨hk, hk2, he⟩
  by_cases hlt : k < l.length
  · by_cases hlt2 : k < m.length
    · rw [lexC_drop hlt hlt2] at he
      simp [hlt, hlt2, show ¬ m.length ≤ k by omega]
      refine ⟨_, cmpCompare_spec _ _, ?_⟩
      by_cases h1 : nth l k < nth m k
      · rw [if_pos h1] at he; simp [h1, he]
      · by_cases h2 : nth m k < nth l k
        · rw [if_neg h1, if_pos h2] at he; simp [h1, h2, he]
        · rw [if_neg h1, if_neg h2] at he
          simp [h1, h2, wrap_id ((k : Int) + 1) (by omega) (by omega)]
          exact Round.mk (k + 1) (weak_mk some (by simp) (by simp) rfl) ⟨hlt, hlt2, he⟩ (by omega)
    · simp [hlt, show m.length ≤ k by omega]
      rw [lexC_endr hlt (by omega)] at he
      exact he.symm
  · rw [lexC_endl (by omega)] at he
    simp [hlt]
    rw [he]
    by_cases h1 : k < m.length
    · simp [h1]; omega
    · simp [h1]; omega
def TailOk (x : AV) : Prop := x = .val (.slice none 0 0) ∨ ∃ l, x = .sl 1 true (ints l)
theorem half_wrap (i j : Nat) (h : i + j ≤ 4194304) : IntKind.i64.wrap ((IntKind.u64.wrap (IntKind.i64.wrap ((i : Int) + j))).fdiv 2) = (((i + j) / 2 : Nat) : Int) := by
  rw [wrap_id ((i : Int) + j) (by omega) (by omega), wrap_u64', show ((i : Int) + j) % 18446744073709551616 = ((i + j : Nat) : Int) by omega]
  have e : (((i + j : Nat) : Int)).fdiv 2 = (((i + j) / 2 : Nat) : Int) := by rw [Int.fdiv_eq_ediv_of_nonneg _ (by omega)]; omega
  rw [e, wrap_id _ (by omega) (by omega)]
/-- The states that a word leads through. -/
def sts (z : AsyV) (g w : List Int) (k : Nat) : List (List Int) := (List.range (k + 1)).map fun i => (runV z g (w.take i)).getD []
@[simp] theorem sts_length (z : AsyV) (g w : List Int) (k : Nat) : (sts z g w k).length = k + 1 := by simp [sts]
theorem sts_succ (z : AsyV) (g w : List Int) (k : Nat) : sts z g w (k + 1) = sts z g w k ++ [(runV z g (w.take (k + 1))).getD []] := by unfold sts; rw [List.range_succ (n := k + 1), List.map_append]; rfl
theorem sts_zero (z : AsyV) (g w : List Int) : sts z g w 0 = [g] := by simp [sts, runV]
theorem sts_at (z : AsyV) (g w : List Int) (k i : Nat) (h : i ≤ k) : nthR (sts z g w k) i = (runV z g (w.take i)).getD [] := by
  rw [nthR_at (by simp; omega)]; simp [sts]
theorem jointsIn_of {l : List JIn} (h : l.length ≤ maxLen ∧ ∀ y ∈ l, ((Lit.int .i64 y.1).wf = true ∧ (y.2.1.2.length ≤ maxLen ∧ ∀ x ∈ y.2.1.2, (Lit.int .i64 x).wf = true) ∧ (y.2.2.1.2.length ≤ maxLen ∧ ∀ x ∈ y.2.2.1.2, (Lit.int .i64 x).wf = true) ∧ True)) : JointsIn l :=
  ⟨h.1, fun y hy => ⟨i64_of_wf (h.2 y hy).1, (h.2 y hy).2.1, (h.2 y hy).2.2.1⟩⟩
/-- The local states of a process after the first letters. -/
def lpU (z : AsyV) (w : List Int) (p : Nat) : Nat → List Int
  | 0 => [nth z.start p]
  | k + 1 => if tb (nth z.places (nth w k).toNat) p then lpU z w p k ++ [nth ((runV z z.start (w.take (k + 1))).getD []) p] else lpU z w p k
theorem lpU_len (z : AsyV) (w : List Int) (p k : Nat) : (lpU z w p k).length ≤ k + 1 := by
  induction k with
  | zero => simp [lpU]
  | succ k ih =>
    unfold lpU
    split
    · simp; omega
    · omega
def localPathV (z : AsyV) (w : List Int) (p : Int) : List Int × Int :=
  if isAsy z then (if overW z.places.length w && (decide (0 ≤ p) && decide (p ≤ (z.sizes.length : Int) - 1)) then (if (runV z z.start w).isSome then (lpU z w p.toNat w.length, 0) else ([], 4)) else ([], 2)) else ([], 1)
theorem lp0 {z : AsyV} {w : List Int} {p : Int} (hz : isAsy z = false) : localPathV z w p = ([], 1) := by simp [localPathV, hz]
theorem lp1 {z : AsyV} {w : List Int} {p : Int} (hz : isAsy z = true) (hb : (overW z.places.length w && (decide (0 ≤ p) && decide (p ≤ (z.sizes.length : Int) - 1))) = false) : localPathV z w p = ([], 2) := by simp only [localPathV, hz, hb]; rfl
theorem lp2 {z : AsyV} {w : List Int} {p : Int} (hz : isAsy z = true) (hb : (overW z.places.length w && (decide (0 ≤ p) && decide (p ≤ (z.sizes.length : Int) - 1))) = true) (hr : runV z z.start w = none) : localPathV z w p = ([], 4) := by simp only [localPathV, hz, hb, hr]; rfl
theorem lp3 {z : AsyV} {w : List Int} {p : Int} {g : List Int} (hz : isAsy z = true) (hb : (overW z.places.length w && (decide (0 ≤ p) && decide (p ≤ (z.sizes.length : Int) - 1))) = true) (hr : runV z z.start w = some g) : localPathV z w p = (lpU z w p.toNat w.length, 0) := by simp only [localPathV, hz, hb, hr]; rfl
def AllI (l : List Int) : Prop := ∀ x ∈ l, I64 x
theorem AllI.nth {l : List Int} (h : AllI l) (i : Nat) : I64 (nth l i) := by
  by_cases hi : i < l.length
  · exact h _ (nth_mem hi)
  · unfold Go.AM.nth
    rw [List.getD_eq_getElem?_getD, List.getElem?_eq_none (by omega)]
    unfold I64
    simp
theorem putL_all {g bs to : List Int} (h1 : AllI g) (h2 : AllI to) : ∀ k, AllI (putL g bs to k)
  | 0 => h1
  | k + 1 => by
    intro x hx
    unfold putL at hx
    rcases List.mem_or_eq_of_mem_set hx with hx | rfl
    · exact putL_all h1 h2 k x hx
    · exact h2.nth k
theorem stepV_all {z : AsyV} (ho : AsyOk z) {g g' : List Int} {a : Nat} (h : AllI g) (hs : stepV z g a = some g') : AllI g' := by
  unfold stepV at hs
  cases hi : stepI z g a with
  | none => rw [hi] at hs; simp at hs
  | some i =>
    rw [hi] at hs
    simp only [Option.map_some, Option.some.injEq] at hs
    rw [← hs]
    unfold stepTo
    refine putL_all h ?_ _
    unfold stepI at hi
    have hm := List.mem_of_find?_eq_some hi
    rw [List.mem_range] at hm
    exact (ho.2.2.2.1.2 _ (nthJ_mem hm)).2.2.2
theorem runV_all {z : AsyV} (ho : AsyOk z) : ∀ {w g g' : List Int}, AllI g → runV z g w = some g' → AllI g'
  | [], g, g', h, hr => by simp [runV] at hr; rw [← hr]; exact h
  | a :: w, g, g', h, hr => by
    simp only [runV] at hr
    cases hs : stepV z g a.toNat with
    | none => rw [hs] at hr; simp at hr
    | some g1 => rw [hs] at hr; exact runV_all ho (stepV_all ho h hs) hr
theorem lpU_all {z : AsyV} (ho : AsyOk z) {w : List Int} {p : Nat} : ∀ k, AllI (lpU z w p k)
  | 0 => by
    intro x hx
    simp only [lpU, List.mem_singleton] at hx
    subst hx
    exact AllI.nth (l := z.start) ho.2.2.1.2 p
  | k + 1 => by
    unfold lpU
    split
    · intro x hx
      rcases List.mem_append.1 hx with hx | hx
      · exact lpU_all ho k x hx
      · simp only [List.mem_singleton] at hx
        subst hx
        cases hr : runV z z.start (w.take (k + 1)) with
        | none => simp only [Option.getD_none]; exact AllI.nth (l := []) (by intro x hx; cases hx) p
        | some g => exact AllI.nth (l := g) (runV_all ho ho.2.2.1.2 hr) p
    · exact lpU_all ho k
theorem LocalPath_fits (z : AsyV) (ho : AsyOk z) (w : List Int) (hw : ListOk w) (p : Int) (hp : I64 p) : ListOk (localPathV z w p).1 := by
  have hn : ListOk ([] : List Int) := ⟨by simp [Fits], by intro x hx; cases hx⟩
  unfold localPathV
  split
  · split
    · split
      · rename_i h1 h2 h3
        have h24 := (overW_facts (by rw [Bool.and_eq_true] at h2; exact h2.1)).1
        have := lpU_len z w p.toNat w.length
        exact ⟨by simp only [Fits]; omega, lpU_all ho _⟩
      · exact hn
    · exact hn
  · exact hn
end Go.AM
