/-
  Several texts in one: FnAv FnAy FnAz FnAx FnBa FnBb FnBc FnBd FnBe.
-/
import Derived.Test.YtnimmbjbinpajaaDoorFnMgA
import Derived.Test.YtnimmbjbinpajaaDoorFnMgT
import Derived.Test.YtnimmbjbinpajaaDoorFnR
set_option linter.unusedVariables false
set_option linter.unusedSimpArgs false
set_option linter.unusedSectionVars false
set_option maxRecDepth 100000
set_option maxHeartbeats 1600000
namespace Go.AM
open Go.Proofs
abbrev J3 := Int × List Int × List Int
def nthJ (l : List J3) (n : Nat) : J3 := l.getD n (0, [], [])
theorem nthJ_at {l : List J3} {n : Nat} (h : n < l.length) : nthJ l n = l[n] := by simp [nthJ, h]
theorem nthJ_mem {l : List J3} {n : Nat} (h : n < l.length) : nthJ l n ∈ l := by rw [nthJ_at h]; exact List.getElem_mem h
/-- The data of an asynchronous automaton. -/
structure AsyV where
  places : List Int
  sizes : List Int
  start : List Int
  joints : List J3
  final : List (List Int)
def isGlob (sizes g : List Int) : Bool := decide (g.length = sizes.length) && (List.range g.length).all fun p => decide (0 ≤ nth g p) && decide (nth g p ≤ nth sizes p - 1)
theorem isGlob_len {sizes g : List Int} (h : isGlob sizes g = true) : g.length = sizes.length := by simp [isGlob] at h; exact h.1
theorem isGlob_iff {sizes g : List Int} : isGlob sizes g = true ↔ g.length = sizes.length ∧ ∀ p, p < g.length → 0 ≤ nth g p ∧ nth g p ≤ nth sizes p - 1 := by simp [isGlob]
theorem isGlob_bad {sizes g : List Int} (p : Nat) (hp : p < g.length) (h : ¬ (0 ≤ nth g p ∧ nth g p ≤ nth sizes p - 1)) : isGlob sizes g = false := by
  cases e : isGlob sizes g
  · rfl
  · exact absurd ((isGlob_iff.1 e).2 p hp) h
theorem isGlob_badlen {sizes g : List Int} (h : g.length ≠ sizes.length) : isGlob sizes g = false := by
  cases e : isGlob sizes g
  · rfl
  · exact absurd (isGlob_len e) h
/-! The places of a mask. -/
def cntB (m : Int) (n : Nat) : Nat := ((List.range n).filter fun i => tb m i).length
theorem pick_len (l : List Int) (m : Int) (n : Nat) : (pick l m n).length = cntB m n := by simp [pick, cntB]
theorem cntB_succ (m : Int) (n : Nat) : cntB m (n + 1) = if tb m n then cntB m n + 1 else cntB m n := by
  unfold cntB
  rw [List.range_succ, List.filter_append, List.length_append]
  split
  · rename_i h; simp [h]
  · rename_i h; simp [h]
theorem pick_pre (l : List Int) (m : Int) {p n : Nat} (h : p ≤ n) : ∃ r, pick l m n = pick l m p ++ r := by
  obtain ⟨d, rfl⟩ : ∃ d, n = p + d := ⟨n - p, by omega⟩
  induction d with
  | zero => exact ⟨[], by simp⟩
  | succ d ih =>
    obtain ⟨r, hr⟩ := ih (by omega)
    rw [← Nat.add_assoc, pick_succ, hr]
    split
    · exact ⟨r ++ [nth l (p + d)], by simp⟩
    · exact ⟨r, rfl⟩
theorem nth_app_l {a b : List Int} {i : Nat} (h : i < a.length) : nth (a ++ b) i = nth a i := by
  unfold nth; rw [List.getD_eq_getElem?_getD, List.getD_eq_getElem?_getD, List.getElem?_append_left h]
theorem nth_app_at {a b : List Int} {x : Int} {i : Nat} (h : i = a.length) : nth (a ++ x :: b) i = x := by
  subst h; unfold nth; simp [List.getD_eq_getElem?_getD]
theorem pick_nth (l : List Int) (m : Int) {p n i : Nat} (h : p ≤ n) (hi : i < cntB m p) : nth (pick l m n) i = nth (pick l m p) i := by
  obtain ⟨r, hr⟩ := pick_pre l m h
  rw [hr, nth_app_l (by rw [pick_len]; exact hi)]
theorem pick_at (l : List Int) (m : Int) {p n : Nat} (h : p < n) (hb : tb m p = true) : nth (pick l m n) (cntB m p) = nth l p := by
  rw [pick_nth l m (show p + 1 ≤ n from h) (by rw [cntB_succ, if_pos hb]; omega), pick_succ, if_pos hb, nth_app_at (by rw [pick_len])]
theorem cntB_mono (m : Int) {p n : Nat} (h : p ≤ n) : cntB m p ≤ cntB m n := by
  obtain ⟨d, rfl⟩ : ∃ d, n = p + d := ⟨n - p, by omega⟩
  induction d with
  | zero => simp
  | succ d ih => have := ih (by omega); rw [← Nat.add_assoc, cntB_succ]; split <;> omega
theorem cntB_lt (m : Int) {p n : Nat} (h : p < n) (hb : tb m p = true) : cntB m p < cntB m n := by
  have := cntB_mono m (show p + 1 ≤ n from h)
  rw [cntB_succ, if_pos hb] at this; omega
theorem pick_all {l : List Int} {m : Int} (n : Nat) (hn : n ≤ l.length) (hb : ∀ i, i < n → tb m i = true) : pick l m n = l.take n := by
  induction n with
  | zero => simp [pick]
  | succ n ih => rw [pick_succ, if_pos (hb n (by omega)), ih (by omega) (fun i hi => hb i (by omega)), take_succ _ _ (by omega)]; rfl
theorem bits_len {m : Int} {n : Nat} (h63 : n ≤ 63) (hb : ∀ i, n ≤ i → tb m i = false) : (bitsOf m).length = cntB m n := by
  have := congrArg List.length (pick_bits (l := List.replicate n 0) (m := m) (by simpa using h63) (by simpa using hb))
  simpa [pick_len] using this
theorem bits_at {m : Int} {p : Nat} (h63 : p < 63) (hb : tb m p = true) : nth (bitsOf m) (cntB m p) = p := by
  unfold bitsOf cntB
  obtain ⟨r, hr⟩ : ∃ r, 63 = (p + 1) + r := ⟨63 - (p + 1), by omega⟩
  rw [hr, List.range_add, List.range_succ, List.filter_append, List.filter_append, List.map_append, List.map_append]
  simp only [hb, List.filter_cons_of_pos, List.filter_nil, List.map_cons, List.map_nil, List.append_assoc, List.singleton_append]
  exact nth_app_at (by simp)
/-- Numbers put at the places of a mask, in ascending order. -/
def putL (g : List Int) (bs : List Int) (to : List Int) : Nat → List Int
  | 0 => g
  | k + 1 => (putL g bs to k).set (nth bs k).toNat (nth to k)
@[simp] theorem putL_len (g bs to : List Int) (k : Nat) : (putL g bs to k).length = g.length := by
  induction k with
  | zero => rfl
  | succ k ih => simp [putL, ih]
/-! Joints. -/
def cmpJ (j k : J3) : Int := if j.1 ≠ k.1 then j.1 - k.1 else lexC j.2.1 k.2.1
theorem cmpJ_zero {j k : J3} : cmpJ j k = 0 ↔ j.1 = k.1 ∧ j.2.1 = k.2.1 := by
  unfold cmpJ
  split
  · rename_i h; constructor
    · intro h2; omega
    · intro h2; exact absurd h2.1 h
  · rename_i h
    have h : j.1 = k.1 := by simpa using h
    constructor
    · intro h2; exact ⟨h, lexC_zero h2⟩
    · intro h2; rw [h2.2]; exact lexC_self _
theorem cmpJ_trans {j k l : J3} (h1 : cmpJ j k < 0) (h2 : cmpJ k l ≤ 0) : cmpJ j l < 0 := by
  unfold cmpJ at *
  by_cases e1 : j.1 = k.1 <;> by_cases e2 : k.1 = l.1
  · rw [if_neg (by simpa using e1)] at h1
    rw [if_neg (by simpa using e2)] at h2
    rw [if_neg (by simp; omega)]
    exact lexC_trans h1 h2
  · rw [if_pos e2] at h2; rw [if_pos (by omega)]; omega
  · rw [if_pos e1] at h1; rw [if_pos (by omega)]; omega
  · rw [if_pos e1] at h1; rw [if_pos e2] at h2; rw [if_pos (by omega)]; omega
def jOk (z : AsyV) (i : Nat) : Bool :=
  decide (0 ≤ (nthJ z.joints i).1) && decide ((nthJ z.joints i).1 ≤ (z.places.length : Int) - 1) &&
  isGlob (pick z.sizes (nth z.places (nthJ z.joints i).1.toNat) z.sizes.length) (nthJ z.joints i).2.1 && isGlob (pick z.sizes (nth z.places (nthJ z.joints i).1.toNat) z.sizes.length) (nthJ z.joints i).2.2 &&
  (decide (i = 0) || decide (cmpJ (nthJ z.joints (i - 1)) (nthJ z.joints i) < 0))
def jointsOk (z : AsyV) : Bool := (List.range z.joints.length).all (jOk z) && decide (z.joints.length ≤ 64)
def fOk (z : AsyV) (i : Nat) : Bool := isGlob z.sizes (nthR z.final i) && (decide (i = 0) || decide (lexC (nthR z.final (i - 1)) (nthR z.final i) < 0))
def finalOk (z : AsyV) : Bool := (List.range z.final.length).all (fOk z) && decide (z.final.length ≤ 64)
def sizesOk (z : AsyV) : Bool := z.sizes.all fun x => decide (1 ≤ x) && decide (x ≤ 4)
def isAsy (z : AsyV) : Bool := arePl z.sizes.length z.places && sizesOk z && isGlob z.sizes z.start && jointsOk z && finalOk z
/-- An order of `n` things, told by neighbours. -/
theorem chain_lt {α : Type} {R : α → α → Prop} (tr : ∀ {a b c}, R a b → R b c → R a c) {f : Nat → α} {n : Nat} (h : ∀ i, i < n → 0 < i → R (f (i - 1)) (f i)) : ∀ i j, i < j → j < n → R (f i) (f j) := by
  intro i j
  induction j with
  | zero => intro h1; omega
  | succ j ih =>
    intro h1 h2
    have s := h (j + 1) h2 (by omega)
    rw [Nat.add_sub_cancel] at s
    by_cases e : i = j
    · subst e; exact s
    · exact tr (ih (by omega) (by omega)) s
theorem joints_lt {z : AsyV} (h : jointsOk z = true) {i j : Nat} (h1 : i < j) (h2 : j < z.joints.length) : cmpJ (nthJ z.joints i) (nthJ z.joints j) < 0 := by
  simp only [jointsOk, Bool.and_eq_true, List.all_eq_true, List.mem_range] at h
  refine chain_lt (R := fun a b => cmpJ a b < 0) (fun a b => cmpJ_trans a (by omega)) (f := nthJ z.joints) (n := z.joints.length) ?_ i j h1 h2
  intro i hi h0
  have := h.1 i hi
  simp only [jOk, Bool.and_eq_true, Bool.or_eq_true, decide_eq_true_eq] at this
  omega
theorem final_lt {z : AsyV} (h : finalOk z = true) {i j : Nat} (h1 : i < j) (h2 : j < z.final.length) : lexC (nthR z.final i) (nthR z.final j) < 0 := by
  simp only [finalOk, Bool.and_eq_true, List.all_eq_true, List.mem_range] at h
  refine chain_lt (R := fun a b => lexC a b < 0) (fun a b => lexC_trans a (by omega)) (f := nthR z.final) (n := z.final.length) ?_ i j h1 h2
  intro i hi h0
  have := h.1 i hi
  simp only [fOk, Bool.and_eq_true, Bool.or_eq_true, decide_eq_true_eq] at this
  omega
/-! Steps. -/
def ownP (z : AsyV) (g : List Int) (a : Nat) : List Int := pick g (nth z.places a) g.length
/-- The number of the joint of a letter in a global state. -/
def stepI (z : AsyV) (g : List Int) (a : Nat) : Option Nat := (List.range z.joints.length).find? fun i => decide ((nthJ z.joints i).1 = (a : Int)) && decide ((nthJ z.joints i).2.1 = ownP z g a)
def stepTo (z : AsyV) (g : List Int) (a i : Nat) : List Int := putL g (bitsOf (nth z.places a)) (nthJ z.joints i).2.2 (cntB (nth z.places a) g.length)
def stepV (z : AsyV) (g : List Int) (a : Nat) : Option (List Int) := (stepI z g a).map (stepTo z g a)
theorem stepV_len {z : AsyV} {g g' : List Int} {a : Nat} (h : stepV z g a = some g') : g'.length = g.length := by
  unfold stepV at h
  cases hs : stepI z g a with
  | none => rw [hs] at h; simp at h
  | some i => rw [hs] at h; simp [stepTo] at h; rw [← h]; simp
theorem find_range {n : Nat} {p : Nat → Bool} {i : Nat} (hi : i < n) (hp : p i = true) (hl : ∀ j, j < i → p j = false) : (List.range n).find? p = some i := by
  rw [List.find?_eq_some_iff_append]
  refine ⟨hp, List.range i, (List.range (n - i - 1)).map (fun j => i + 1 + j), ?_, by simpa using fun j hj => hl j hj⟩
  obtain ⟨d, rfl⟩ : ∃ d, n = i + 1 + d := ⟨n - i - 1, by omega⟩
  rw [List.range_add, List.range_succ, show i + 1 + d - i - 1 = d by omega]; simp
theorem find_range_none {n : Nat} {p : Nat → Bool} (h : ∀ j, j < n → p j = false) : (List.range n).find? p = none := by
  rw [List.find?_eq_none]; intro j hj; simp at hj; simp [h j hj]
/-- The joint that a search by halves finds. -/
theorem stepI_of {z : AsyV} (hz : jointsOk z = true) (g : List Int) (a : Nat) : stepI z g a =
    (let i := bsI (fun h => cmpJ (nthJ z.joints h) (a, ownP z g a, [])) z.joints.length
     if i < z.joints.length ∧ cmpJ (nthJ z.joints i) (a, ownP z g a, []) = 0 then some i else none) := by
  simp only
  by_cases he : ∃ i, i < z.joints.length ∧ cmpJ (nthJ z.joints i) (a, ownP z g a, []) = 0
  · obtain ⟨i, hi, h0⟩ := he
    have hb : bsI (fun h => cmpJ (nthJ z.joints h) (a, ownP z g a, [])) z.joints.length = i := by
      refine bsI_of (by omega) (fun h hh => cmpJ_trans (joints_lt hz hh hi) (by omega)) ?_
      intro h h1 h2 h3
      by_cases e : h = i
      · subst e; omega
      · have := cmpJ_trans (joints_lt hz (show i < h by omega) h2) (by omega : cmpJ (nthJ z.joints h) (a, ownP z g a, []) ≤ 0)
        omega
    rw [hb, if_pos ⟨hi, h0⟩]
    refine find_range hi ?_ ?_
    · have := cmpJ_zero.1 h0
      simpa using this
    · intro j hj
      have := cmpJ_trans (joints_lt hz hj hi) (by omega : cmpJ (nthJ z.joints i) (a, ownP z g a, []) ≤ 0)
      cases hp : (decide ((nthJ z.joints j).1 = (a : Int)) && decide ((nthJ z.joints j).2.1 = ownP z g a))
      · rfl
      · have : cmpJ (nthJ z.joints j) (a, ownP z g a, []) = 0 := cmpJ_zero.2 (by simpa using hp)
        omega
  · rw [if_neg (fun h => he ⟨_, h⟩)]
    refine find_range_none fun j hj => ?_
    cases hp : (decide ((nthJ z.joints j).1 = (a : Int)) && decide ((nthJ z.joints j).2.1 = ownP z g a))
    · rfl
    · exact absurd ⟨j, hj, cmpJ_zero.2 (by simpa using hp)⟩ he
theorem final_of {z : AsyV} (hz : finalOk z = true) (g : List Int) :
    (let i := bsI (fun h => lexC (nthR z.final h) g) z.final.length
     decide (i < z.final.length) && decide (lexC (nthR z.final i) g = 0)) = decide (g ∈ z.final) := by
  simp only
  by_cases he : g ∈ z.final
  · obtain ⟨i, hi, h0⟩ := List.mem_iff_getElem.1 he
    have h0 : nthR z.final i = g := by rw [nthR_at hi]; exact h0
    have hb : bsI (fun h => lexC (nthR z.final h) g) z.final.length = i := by
      refine bsI_of (by omega) (fun h hh => by have := final_lt hz hh hi; rw [h0] at this; exact this) ?_
      intro h h1 h2 h3
      by_cases e : h = i
      · subst e; rw [h0, lexC_self] at h3; omega
      · have := lexC_trans (final_lt hz (show i < h by omega) h2) (by omega : lexC (nthR z.final h) g ≤ 0)
        rw [h0, lexC_self] at this; omega
    rw [hb, h0, lexC_self]; simp [hi, he]
  · rw [decide_eq_false he]
    by_cases hi : bsI (fun h => lexC (nthR z.final h) g) z.final.length < z.final.length
    · have : ¬ lexC (nthR z.final (bsI (fun h => lexC (nthR z.final h) g) z.final.length)) g = 0 := fun h => he (by
        have := lexC_zero h
        rw [← this, nthR_at hi]; exact List.getElem_mem hi)
      simp [this]
    · simp [hi]
/-! Runs. -/
def runV (z : AsyV) (g : List Int) : List Int → Option (List Int)
  | [] => some g
  | a :: w => (stepV z g a.toNat).bind fun g' => runV z g' w
theorem runV_app (z : AsyV) (g : List Int) (w : List Int) (a : Int) : runV z g (w ++ [a]) = (runV z g w).bind fun g' => stepV z g' a.toNat := by
  induction w generalizing g with
  | nil => simp [runV]
  | cons b w ih => 
    simp only [List.cons_append, runV]
    cases stepV z g b.toNat with
    | none => rfl
    | some g' => exact ih g'
theorem runV_pre (z : AsyV) (g : List Int) (w v : List Int) (h : runV z g w = none) : runV z g (w ++ v) = none := by
  induction w generalizing g with
  | nil => simp [runV] at h
  | cons b w ih =>
    simp only [List.cons_append, runV] at *
    cases hs : stepV z g b.toNat with
    | none => rfl
    | some g' => rw [hs] at h; exact ih g' h
theorem runV_len {z : AsyV} {g : List Int} : ∀ {w g'}, runV z g w = some g' → g'.length = g.length
  | [], g', h => by simp [runV] at h; rw [h]
  | a :: w, g', h => by
    simp only [runV] at h
    cases hs : stepV z g a.toNat with
    | none => rw [hs] at h; simp at h
    | some g1 => rw [hs] at h; rw [runV_len (g := g1) h, stepV_len hs]
def acceptsTraceV (z : AsyV) (w : List Int) : Bool × Int :=
  if isAsy z then (if overW z.places.length w then (match runV z z.start w with | some g => (decide (g ∈ z.final), 0) | none => (false, 0)) else (false, 2)) else (false, 1)
/-! Elements of several cells. -/
theorem flat_length {α : Type} {f : α → List AV} {s : Nat} (hf : ∀ a, (f a).length = s) (l : List α) : (l.flatMap f).length = l.length * s := by
  induction l with
  | nil => simp
  | cons a l ih => simp [List.flatMap_cons, hf, ih, Nat.succ_mul]; omega
theorem flat_drop {α : Type} {f : α → List AV} {s : Nat} (hf : ∀ a, (f a).length = s) : ∀ (l : List α) (n : Nat), (l.flatMap f).drop (n * s) = (l.drop n).flatMap f
  | l, 0 => by simp
  | [], n + 1 => by simp
  | a :: l, n + 1 => by
    rw [List.flatMap_cons, show (n + 1) * s = s + n * s by rw [Nat.succ_mul]; omega, ← List.drop_drop, List.drop_left' (hf a), List.drop_succ_cons]
    exact flat_drop hf l n
theorem flat_window {α : Type} {f : α → List AV} {s : Nat} (hf : ∀ a, (f a).length = s) {l : List α} {n : Nat} (d : α) (h : n < l.length) : ((l.flatMap f).drop (n * s)).take s = f (l.getD n d) := by
  rw [flat_drop hf, List.drop_eq_getElem_cons h, List.flatMap_cons, List.take_left' (hf _)]
  simp [h]
def sizeB (P : Program) (t : TypeId) (s : Nat) : Bool := match telem P t with | some e => tok P e && (tsize P e == s) | none => false
attribute [simp] sizeB
theorem idx_flat {P : Program} {st : St} {t : TypeId} {nn : Bool} {α : Type} {f : α → List AV} {s : Nat} {l : List α} {c : IntKind} {i : Int} {k : Eff → Prop} (hs : 0 < s) (hf : ∀ a, (f a).length = s) (d : α) (h : sizeB P t s = true) :
    indexAddrOp P st t (.sl s nn (l.flatMap f)) (.val (.int c i)) k = (0 ≤ i ∧ i.toNat < l.length ∧ k { val := .ip (f (l.getD i.toNat d)) }) := by
  unfold sizeB at h
  split at h
  · rename_i e he
    simp only [Bool.and_eq_true, beq_iff_eq] at h
    unfold indexAddrOp
    have fl := flat_length hf l
    simp only [he, slOf2, slOf, h.1, h.2, true_and, fl]
    have key : ∀ n : Nat, (n + 1) * s ≤ l.length * s ↔ n < l.length := fun n => by rw [Nat.mul_le_mul_right_iff hs]; omega
    refine propext ⟨?_, ?_⟩
    · rintro ⟨_, h0, h1, h2⟩
      have h1 := (key _).1 h1
      refine ⟨h0, h1, ?_⟩
      rw [flat_window hf d h1] at h2; exact h2
    · rintro ⟨h0, h1, h2⟩
      refine ⟨hs, h0, (key _).2 h1, ?_⟩
      rw [flat_window hf d h1]; exact h2
  · cases h
/-! Rows and joints. -/
abbrev JIn := Int × (Bool × List Int) × (Bool × List Int) × Unit
def jof (y : JIn) : J3 := (y.1, y.2.1.2, y.2.2.1.2)
def rin (l : List (Bool × List Int)) : List AV := l.flatMap fun p => [.sl 1 p.1 (ints p.2)]
def jin (l : List JIn) : List AV := l.flatMap fun y => [iv y.1, .sl 1 y.2.1.1 (ints y.2.1.2), .sl 1 y.2.2.1.1 (ints y.2.2.1.2)]
def jcl (l : List J3) : List AV := l.flatMap fun y => [iv y.1, .sl 1 true (ints y.2.1), .sl 1 true (ints y.2.2)]
def jow (l : List J3) : List AV := l.flatMap fun y => [iv y.1, .own 1 true (ints y.2.1), .own 1 true (ints y.2.2)]
@[simp] theorem rin_length (l : List (Bool × List Int)) : (rin l).length = l.length := by rw [rin, flat_length (s := 1) (fun _ => rfl)]; simp
@[simp] theorem jin_length (l : List JIn) : (jin l).length = l.length * 3 := by rw [jin, flat_length (s := 3) (fun _ => rfl)]
@[simp] theorem jcl_length (l : List J3) : (jcl l).length = l.length * 3 := by rw [jcl, flat_length (s := 3) (fun _ => rfl)]
@[simp] theorem jow_length (l : List J3) : (jow l).length = l.length * 3 := by rw [jow, flat_length (s := 3) (fun _ => rfl)]
@[simp] theorem jcl_nil : jcl [] = [] := rfl
@[simp] theorem jow_nil : jow [] = [] := rfl
theorem jcl_cons (j : J3) (l : List J3) : jcl (j :: l) = iv j.1 :: .sl 1 true (ints j.2.1) :: .sl 1 true (ints j.2.2) :: jcl l := rfl
theorem jow_cons (j : J3) (l : List J3) : jow (j :: l) = iv j.1 :: .own 1 true (ints j.2.1) :: .own 1 true (ints j.2.2) :: jow l := rfl
theorem jow_append (l m : List J3) : jow (l ++ m) = jow l ++ jow m := by simp [jow]
def nthI (l : List JIn) (n : Nat) : JIn := l.getD n (0, (false, []), (false, []), ())
def nthF (l : List (Bool × List Int)) (n : Nat) : Bool × List Int := l.getD n (false, [])
theorem nthI_at {l : List JIn} {n : Nat} (h : n < l.length) : nthI l n = l[n] := by simp [nthI, h]
theorem nthF_at {l : List (Bool × List Int)} {n : Nat} (h : n < l.length) : nthF l n = l[n] := by simp [nthF, h]
theorem nthI_mem {l : List JIn} {n : Nat} (h : n < l.length) : nthI l n ∈ l := by rw [nthI_at h]; exact List.getElem_mem h
theorem nthF_mem {l : List (Bool × List Int)} {n : Nat} (h : n < l.length) : nthF l n ∈ l := by rw [nthF_at h]; exact List.getElem_mem h
theorem idx_rin {P : Program} {st : St} {t : TypeId} {nn : Bool} {l : List (Bool × List Int)} {c : IntKind} {i : Int} {k : Eff → Prop} (h : sizeB P t 1 = true) :
    indexAddrOp P st t (.sl 1 nn (rin l)) (.val (.int c i)) k = (0 ≤ i ∧ i.toNat < l.length ∧ k { val := .ip [.sl 1 (nthF l i.toNat).1 (ints (nthF l i.toNat).2)] }) := idx_flat (s := 1) (by omega) (fun _ => rfl) _ h
theorem idx_jin {P : Program} {st : St} {t : TypeId} {nn : Bool} {l : List JIn} {c : IntKind} {i : Int} {k : Eff → Prop} (h : sizeB P t 3 = true) :
    indexAddrOp P st t (.sl 3 nn (jin l)) (.val (.int c i)) k = (0 ≤ i ∧ i.toNat < l.length ∧ k { val := .ip [iv (nthI l i.toNat).1, .sl 1 (nthI l i.toNat).2.1.1 (ints (nthI l i.toNat).2.1.2), .sl 1 (nthI l i.toNat).2.2.1.1 (ints (nthI l i.toNat).2.2.1.2)] }) := idx_flat (s := 3) (by omega) (fun _ => rfl) _ h
theorem idx_jcl {P : Program} {st : St} {t : TypeId} {nn : Bool} {l : List J3} {c : IntKind} {i : Int} {k : Eff → Prop} (h : sizeB P t 3 = true) :
    indexAddrOp P st t (.sl 3 nn (jcl l)) (.val (.int c i)) k = (0 ≤ i ∧ i.toNat < l.length ∧ k { val := .ip [iv (nthJ l i.toNat).1, .sl 1 true (ints (nthJ l i.toNat).2.1), .sl 1 true (ints (nthJ l i.toNat).2.2)] }) := idx_flat (s := 3) (by omega) (fun _ => rfl) _ h
attribute [simp high] idx_rin idx_jin idx_jcl
@[simp] theorem jcl_nrf (l : List J3) : nrfL (jcl l) = true := by
  induction l with
  | nil => rfl
  | cons r rs ih => simp [jcl_cons, nrfL, nrf, ih]
@[simp] theorem jow_nrf (l : List J3) : nrfL (jow l) = true := by
  induction l with
  | nil => rfl
  | cons r rs ih => simp [jow_cons, nrfL, nrf, ih]
@[simp] theorem jow_pur (l : List J3) : purL (jow l) = true := by
  induction l with
  | nil => rfl
  | cons r rs ih => simp [jow_cons, purL, pur, ih]
@[simp] theorem jow_view (l : List J3) : viewL (jow l) = jcl l := by
  induction l with
  | nil => rfl
  | cons r rs ih => simp [jow_cons, jcl_cons, viewL, view, ih]
@[simp] theorem jcl_view (l : List J3) : viewL (jcl l) = jcl l := by
  induction l with
  | nil => rfl
  | cons r rs ih => simp [jcl_cons, viewL, view, ih]
@[simp ↓ high] theorem jcl_cpy (l : List J3) : (jcl l).all cpy = true := by simp [jcl, cpy]
@[simp ↓ high] theorem jcl_one (l : List J3) : (jcl l).all one = true := by simp [jcl, one]
@[simp ↓ high] theorem jow_one (l : List J3) : (jow l).all one = true := by simp [jow, one]
/-! Sizes. -/
def totF : List (Bool × List Int) → Nat
  | [] => 0
  | r :: rs => r.2.length + totF rs
def totJ : List JIn → Nat
  | [] => 0
  | r :: rs => r.2.1.2.length + r.2.2.1.2.length + totJ rs
theorem totF_snoc (rs : List (Bool × List Int)) (r : Bool × List Int) : totF (rs ++ [r]) = totF rs + r.2.length := by
  induction rs with
  | nil => simp [totF]
  | cons x rs ih => simp [totF, ih]; omega
theorem totJ_snoc (rs : List JIn) (r : JIn) : totJ (rs ++ [r]) = totJ rs + (r.2.1.2.length + r.2.2.1.2.length) := by
  induction rs with
  | nil => simp [totJ]
  | cons x rs ih => simp [totJ, ih]; omega
theorem totF_le (rs : List (Bool × List Int)) : ∀ i, totF (rs.take i) ≤ totF rs := by
  induction rs with
  | nil => intro i; simp [totF]
  | cons r rs ih =>
    intro i
    cases i with
    | zero => simp [totF]
    | succ i => simp only [List.take_succ_cons, totF]; have := ih i; omega
theorem totJ_le (rs : List JIn) : ∀ i, totJ (rs.take i) ≤ totJ rs := by
  induction rs with
  | nil => intro i; simp [totJ]
  | cons r rs ih =>
    intro i
    cases i with
    | zero => simp [totJ]
    | succ i => simp only [List.take_succ_cons, totJ]; have := ih i; omega
theorem takeF (rs : List (Bool × List Int)) (i : Nat) (h : i < rs.length) : rs.take (i + 1) = rs.take i ++ [nthF rs i] := by rw [List.take_succ_eq_append_getElem h, nthF_at h]
theorem takeI (rs : List JIn) (i : Nat) (h : i < rs.length) : rs.take (i + 1) = rs.take i ++ [nthI rs i] := by rw [List.take_succ_eq_append_getElem h, nthI_at h]
def RowsIn (l : List (Bool × List Int)) : Prop := l.length ≤ maxLen ∧ ∀ r ∈ l, Int64SIn r.2
def JointsIn (l : List JIn) : Prop := l.length ≤ maxLen ∧ ∀ j ∈ l, I64 j.1 ∧ Int64SIn j.2.1.2 ∧ Int64SIn j.2.2.1.2
def RowsOkF (l : List (Bool × List Int)) : Prop := l.length ≤ 1048576 ∧ ∀ r ∈ l, ListOk r.2
def JointsOk (l : List JIn) : Prop := l.length ≤ 1048576 ∧ ∀ j ∈ l, I64 j.1 ∧ ListOk j.2.1.2 ∧ ListOk j.2.2.1.2
theorem szJointL (y : JIn) (left : Int) (h : Int64SIn y.2.1.2 ∧ Int64SIn y.2.2.1.2) (h0 : 0 ≤ left) (h1 : left ≤ 1048576) :
    ACalls1 Tryd.prog 122 [.agg [iv y.1, .sl 1 y.2.1.1 (ints y.2.1.2), .sl 1 y.2.2.1.1 (ints y.2.2.1.2)], iv left] (iv (szI left (y.2.1.2.length + y.2.2.1.2.length))) := by
  refine walk (fun t => t == 2) mixed Go.Proofs.Tryd.func122 rfl rfl rfl (by kernel_rfl) rfl (by simp) (by kernel_rfl) ?_
  simp
  have b0 : szI left y.2.1.2.length ≤ 1048576 := by unfold szI; split <;> omega
  refine ⟨_, szInt64S_spec _ y.2.1.2 _ h.1.1 (by omega) (by omega), ?_⟩
  simp
  refine ⟨by unfold szI at *; grind, fun g0 => ?_⟩
  refine ⟨_, szInt64S_spec _ y.2.2.1.2 _ h.2.1 (by omega) (by omega), ?_⟩
  simp
  unfold szI at *
  grind
theorem szJointSL (nn : Bool) (l : List JIn) (left : Int) (h : JointsIn l) (h0 : 0 ≤ left) (h1 : left ≤ 1048576) : ACalls1 Tryd.prog 50 [.sl 3 nn (jin l), iv left] (iv (szI left (l.length + totJ l))) := by
  have hmx := h.1
  unfold maxLen at hmx
  refine walk (fun _ => false) mixed Go.Proofs.Tryd.func50 rfl rfl rfl (by kernel_rfl) rfl (by simp) (by kernel_rfl) ?_
  simp
  rw [wrap_id _ (by omega) (by omega)]
  refine ⟨fun g => by unfold szI; rw [if_pos (by omega)], fun g => ?_⟩
  refine awp_loop2 [0] [] (fun i : Nat => [(5, iv i), (1, iv (left - l.length - totJ (l.take i)))]) (fun _ => []) (fun i => i ≤ l.length ∧ 0 ≤ left - l.length - (totJ (l.take i) : Int)) (fun i => l.length - i) 0 (weak_mk some (by simp [totJ]) (by simp) rfl) (by simp [totJ]; omega) ?_
  rintro i ⟨hi, hp⟩
  have ht := totJ_le l i
  by_cases hlt : i < l.length
  · have ht2 := totJ_le l (i + 1)
    have hs : totJ (l.take (i + 1)) = totJ (l.take i) + ((nthI l i).2.1.2.length + (nthI l i).2.2.1.2.length) := by rw [takeI l i hlt, totJ_snoc]
    have hm := h.2 _ (nthI_mem hlt)
    simp [hlt]
    refine ⟨_, szJointL (nthI l i) _ hm.2 (by omega) (by omega), ?_⟩
    simp
    constructor
    · intro g2
      unfold szI at *
      rw [if_pos (by split at g2 <;> omega)]
    · intro g2
      have e : szI (left - l.length - totJ (l.take i)) ((nthI l i).2.1.2.length + (nthI l i).2.2.1.2.length) = left - l.length - totJ (l.take (i + 1)) := by unfold szI at *; split at g2 <;> omega
      rw [e] at g2 ⊢
      simp [wrap_id ((i : Int) + 1) (by omega) (by omega)]
      exact Round.mk (i + 1) (weak_mk some (by simp) (by simp) rfl) ⟨hlt, by omega⟩ (by omega)
  · obtain rfl : i = l.length := by omega
    simp
    unfold szI
    rw [List.take_length] at *
    rw [if_neg (by omega)]; omega
theorem szInt64SSL (nn : Bool) (l : List (Bool × List Int)) (left : Int) (h : RowsIn l) (h0 : 0 ≤ left) (h1 : left ≤ 1048576) : ACalls1 Tryd.prog 31 [.sl 1 nn (rin l), iv left] (iv (szI left (l.length + totF l))) := by
  have hmx := h.1
  unfold maxLen at hmx
  refine walk (fun _ => false) mixed Go.Proofs.Tryd.func31 rfl rfl rfl (by kernel_rfl) rfl (by simp) (by kernel_rfl) ?_
  simp
  rw [wrap_id _ (by omega) (by omega)]
  refine ⟨fun g => by unfold szI; rw [if_pos (by omega)], fun g => ?_⟩
  refine awp_loop2 [0] [] (fun i : Nat => [(5, iv i), (1, iv (left - l.length - totF (l.take i)))]) (fun _ => []) (fun i => i ≤ l.length ∧ 0 ≤ left - l.length - (totF (l.take i) : Int)) (fun i => l.length - i) 0 (weak_mk some (by simp [totF]) (by simp) rfl) (by simp [totF]; omega) ?_
  rintro i ⟨hi, hp⟩
  have ht := totF_le l i
  by_cases hlt : i < l.length
  · have ht2 := totF_le l (i + 1)
    have hs : totF (l.take (i + 1)) = totF (l.take i) + (nthF l i).2.length := by rw [takeF l i hlt, totF_snoc]
    have hm := h.2 _ (nthF_mem hlt)
    simp [hlt]
    refine ⟨_, szInt64S_spec _ (nthF l i).2 _ hm.1 (by omega) (by omega), ?_⟩
    simp
    constructor
    · intro g2
      unfold szI at *
      rw [if_pos (by split at g2 <;> omega)]
    · intro g2
      have e : szI (left - l.length - totF (l.take i)) (nthF l i).2.length = left - l.length - totF (l.take (i + 1)) := by unfold szI at *; split at g2 <;> omega
      rw [e] at g2 ⊢
      simp [wrap_id ((i : Int) + 1) (by omega) (by omega)]
      exact Round.mk (i + 1) (weak_mk some (by simp) (by simp) rfl) ⟨hlt, by omega⟩ (by omega)
  · obtain rfl : i = l.length := by omega
    simp
    unfold szI
    rw [List.take_length] at *
    rw [if_neg (by omega)]; omega
theorem toJointL (y : JIn) (h : Fits y.2.1.2 ∧ Fits y.2.2.1.2) :
    ACalls1 Tryd.prog 130 [.agg [iv y.1, .sl 1 y.2.1.1 (ints y.2.1.2), .sl 1 y.2.2.1.1 (ints y.2.2.1.2)]] (.agg [iv y.1, .own 1 true (ints y.2.1.2), .own 1 true (ints y.2.2.1.2)]) := by
  refine walk (fun t => t == 1) mixed Go.Proofs.Tryd.func130 rfl rfl rfl (by kernel_rfl) rfl (by simp) (by kernel_rfl) ?_
  simp
  refine ⟨_, toInt64S_spec _ y.2.1.2 h.1, ?_⟩
  simp
  refine ⟨_, toInt64S_spec _ y.2.2.1.2 h.2, ?_⟩
  simp
/-- Cells of joints that are not there yet. -/
def jz (n : Nat) : List AV := (List.replicate n [iv 0, AV.val (.slice none 0 0), AV.val (.slice none 0 0)]).flatten
@[simp] theorem jz_length (n : Nat) : (jz n).length = n * 3 := by
  induction n with
  | zero => rfl
  | succ n ih => simp [jz, List.replicate_succ, Nat.succ_mul] at *
theorem jz_succ (n : Nat) : jz (n + 1) = iv 0 :: .val (.slice none 0 0) :: .val (.slice none 0 0) :: jz n := by simp [jz, List.replicate_succ]
theorem jow_put (L : List J3) (k : Nat) (j : J3) (i : Nat) (hi : L.length = i) :
    List.take (i * 3) (jow L ++ jz (k + 1)) ++ iv j.1 :: AV.own 1 true (ints j.2.1) :: AV.own 1 true (ints j.2.2) :: List.drop (i * 3 + 3) (jow L ++ jz (k + 1)) = jow (L ++ [j]) ++ jz k := by
  have e : i * 3 = (jow L).length := by simp [hi]
  rw [List.take_left' (by rw [e]), ← List.drop_drop, List.drop_left' (by rw [e]), jow_append, jz_succ]
  simp [jow]
/-- Rows that are not there yet. -/
def rz (n : Nat) : List AV := List.replicate n (AV.val (.slice none 0 0))
@[simp] theorem rz_length (n : Nat) : (rz n).length = n := by simp [rz]
theorem rz_succ (n : Nat) : rz (n + 1) = .val (.slice none 0 0) :: rz n := rfl
theorem orows_put (L : List (List Int)) (k : Nat) (j : List Int) (i : Nat) (hi : L.length = i) :
    List.take i (orows true L ++ rz (k + 1)) ++ AV.own 1 true (ints j) :: List.drop (i + 1) (orows true L ++ rz (k + 1)) = orows true (L ++ [j]) ++ rz k := by
  have e : i = (orows true L).length := by simp [hi]
  rw [List.take_left' (by rw [e]), ← List.drop_drop, List.drop_left' (by rw [e]), rz_succ]
  simp [← orows_snoc]
theorem toJointSL (nn : Bool) (l : List JIn) (h : JointsOk l) : ACalls1 Tryd.prog 54 [.sl 3 nn (jin l)] (.own 3 true (jow (l.map jof))) := by
  have hl := h.1
  refine walk (fun _ => false) mixed Go.Proofs.Tryd.func54 rfl rfl rfl (by kernel_rfl) rfl (by simp) (by kernel_rfl) ?_
  simp
  repeat (refine And.intro (by omega) ?_)
  refine awp_loop2 [0, 3] [] (fun i : Nat => [(4, iv i)]) (fun i => [(7, .own 3 true (jow ((l.take i).map jof) ++ jz (l.length - i)))]) (fun i => i ≤ l.length) (fun i => l.length - i) 0 (weak_mk some (by simp) (by simp [jz]) rfl) (by simp) ?_
  intro i hi
  by_cases hlt : i < l.length
  · have hm := h.2 _ (nthI_mem hlt)
    obtain ⟨k, hk⟩ : ∃ k, l.length - i = k + 1 := ⟨l.length - i - 1, by omega⟩
    simp [hlt]
    refine ⟨_, toJointL (nthI l i) ⟨hm.2.1.1, hm.2.2.1⟩, ?_⟩
    simp [hlt, wrap_id ((i : Int) + 1) (by omega) (by omega)]
    refine ⟨by omega, by omega, ?_⟩
    have ep := jow_put ((l.take i).map jof) k (jof (nthI l i)) i (by simp; omega)
    refine Round.mk (i + 1) (weak_mk some (by simp) ?_ rfl) hlt (by omega)
    have e2 : (l.map jof).take (i + 1) = (l.map jof).take i ++ [jof (nthI l i)] := by rw [← List.map_take, ← List.map_take, takeI l i hlt]; simp
    simp only [List.map_take] at ep
    rw [e2, show l.length - (i + 1) = k by omega, ← ep, hk]
    simp [jof]
  · obtain rfl : i = l.length := by omega
    simp [jz]
theorem toInt64SSL (nn : Bool) (l : List (Bool × List Int)) (h : RowsOkF l) : ACalls1 Tryd.prog 38 [.sl 1 nn (rin l)] (.own 1 true (orows true (l.map Prod.snd))) := by
  have hl := h.1
  refine walk (fun _ => false) mixed Go.Proofs.Tryd.func38 rfl rfl rfl (by kernel_rfl) rfl (by simp) (by kernel_rfl) ?_
  simp
  repeat (refine And.intro (by omega) ?_)
  refine awp_loop2 [0, 3] [] (fun i : Nat => [(4, iv i)]) (fun i => [(7, .own 1 true (orows true ((l.take i).map Prod.snd) ++ rz (l.length - i)))]) (fun i => i ≤ l.length) (fun i => l.length - i) 0 (weak_mk some (by simp) (by simp [rz]) rfl) (by simp) ?_
  intro i hi
  by_cases hlt : i < l.length
  · have hm := h.2 _ (nthF_mem hlt)
    obtain ⟨k, hk⟩ : ∃ k, l.length - i = k + 1 := ⟨l.length - i - 1, by omega⟩
    simp [hlt]
    refine ⟨_, toInt64S_spec _ (nthF l i).2 hm.1, ?_⟩
    simp [hlt, wrap_id ((i : Int) + 1) (by omega) (by omega)]
    refine ⟨by omega, ?_⟩
    have ep := orows_put ((l.take i).map Prod.snd) k (nthF l i).2 i (by simp; omega)
    refine Round.mk (i + 1) (weak_mk some (by simp) ?_ rfl) hlt (by omega)
    have e2 : (l.map Prod.snd).take (i + 1) = (l.map Prod.snd).take i ++ [(nthF l i).2] := by rw [← List.map_take, ← List.map_take, takeF l i hlt]; simp
    simp only [List.map_take] at ep
    rw [e2, show l.length - (i + 1) = k by omega, ← ep, hk]
    simp
  · obtain rfl : i = l.length := by omega
    simp [rz]
theorem eqJointL (j : J3) (h : ListOk j.2.1 ∧ ListOk j.2.2) : ACalls1 Tryd.prog 138 [.agg [iv j.1, .sl 1 true (ints j.2.1), .sl 1 true (ints j.2.2)], .agg [iv j.1, .sl 1 true (ints j.2.1), .sl 1 true (ints j.2.2)]] (bv true) := by
  refine walk (fun t => t == 2 || t == 3) mixed Go.Proofs.Tryd.func138 rfl rfl rfl (by kernel_rfl) rfl (by simp) (by kernel_rfl) ?_
  simp
  refine ⟨_, eqInt64SL _ _ j.2.1 h.1, ?_⟩
  simp
  refine ⟨_, eqInt64SL _ _ j.2.2 h.2, ?_⟩
  simp
theorem eqJointSL (l : List J3) (hl : l.length ≤ 1048576) (h : ∀ j ∈ l, ListOk j.2.1 ∧ ListOk j.2.2) : ACalls1 Tryd.prog 64 [.sl 3 true (jcl l), .sl 3 true (jcl l)] (bv true) := by
  refine walk (fun _ => false) mixed Go.Proofs.Tryd.func64 rfl rfl rfl (by kernel_rfl) rfl (by simp) (by kernel_rfl) ?_
  simp
  refine awp_loop2 [0, 1] [] (fun k : Nat => [(5, iv k)]) (fun _ => []) (fun k => k ≤ l.length) (fun k => l.length - k) 0 (weak_mk some (by simp) (by simp) rfl) (by simp) ?_
  intro k hk
  by_cases hlt : k < l.length
  · simp [hlt]
    refine ⟨_, eqJointL (nthJ l k) (h _ (nthJ_mem hlt)), ?_⟩
    simp [wrap_id ((k : Int) + 1) (by omega) (by omega)]
    exact Round.mk (k + 1) (weak_mk some (by simp) (by simp) rfl) hlt (by omega)
  · simp [hlt]
/-! Automata. -/
structure AsyI where
  places : List Int
  sizes : List Int
  start : List Int
  joints : List JIn
  final : List (Bool × List Int)
def AsyI.v (z : AsyI) : AsyV := ⟨z.places, z.sizes, z.start, z.joints.map jof, z.final.map Prod.snd⟩
@[reducible] def asyIn (a b c d e : Bool) (z : AsyI) : AV := .agg [.sl 1 a (ints z.places), .sl 1 b (ints z.sizes), .sl 1 c (ints z.start), .sl 3 d (jin z.joints), .sl 1 e (rin z.final)]
@[reducible] def asySl (z : AsyV) : AV := .agg [.sl 1 true (ints z.places), .sl 1 true (ints z.sizes), .sl 1 true (ints z.start), .sl 3 true (jcl z.joints), .sl 1 true (srows true z.final)]
@[reducible] def asyOw (z : AsyV) : AV := .agg [.own 1 true (ints z.places), .own 1 true (ints z.sizes), .own 1 true (ints z.start), .own 3 true (jow z.joints), .own 1 true (orows true z.final)]
def AsynchronousIn (z : AsyI) : Prop := Int64SIn z.places ∧ Int64SIn z.sizes ∧ Int64SIn z.start ∧ JointsIn z.joints ∧ RowsIn z.final
def AsyOk (z : AsyV) : Prop := ListOk z.places ∧ ListOk z.sizes ∧ ListOk z.start ∧ (z.joints.length ≤ 1048576 ∧ ∀ j ∈ z.joints, I64 j.1 ∧ ListOk j.2.1 ∧ ListOk j.2.2) ∧ z.final.length ≤ 1048576 ∧ ∀ r ∈ z.final, ListOk r
def AsynchronousOk (z : AsyI) : Prop := JointsOk z.joints ∧ RowsOkF z.final ∧ AsyOk z.v ∧ totJ z.joints ≤ 1048576 ∧ totF z.final ≤ 1048576 ∧ z.places.length + z.sizes.length + z.start.length ≤ 1048576
def szA1 (left : Int) (z : AsyI) : Int := szI left z.places.length
def szA2 (left : Int) (z : AsyI) : Int := szI (szA1 left z) z.sizes.length
def szA3 (left : Int) (z : AsyI) : Int := szI (szA2 left z) z.start.length
def szA4 (left : Int) (z : AsyI) : Int := szI (szA3 left z) (z.joints.length + totJ z.joints)
def szA5 (left : Int) (z : AsyI) : Int := szI (szA4 left z) (z.final.length + totF z.final)
def szAsynchronousJ (left : Int) (z : AsyI) : Int := if szA1 left z < 0 then -1 else if szA2 left z < 0 then -1 else if szA3 left z < 0 then -1 else if szA4 left z < 0 then -1 else if szA5 left z < 0 then -1 else szA5 left z
theorem szI_le' {l : Int} {n : Nat} (h : l ≤ 1048576) : szI l n ≤ 1048576 := by unfold szI; split <;> omega
theorem szAsynchronousL (a b c d e : Bool) (z : AsyI) (left : Int) (h : AsynchronousIn z) (h0 : 0 ≤ left) (h1 : left ≤ 1048576) : ACalls1 Tryd.prog 13 [asyIn a b c d e z, iv left] (iv (szAsynchronousJ left z)) := by
  refine walk (fun t => t == 2) mixed Go.Proofs.Tryd.func13 rfl rfl rfl (by kernel_rfl) rfl (by simp) (by kernel_rfl) ?_
  simp
  unfold szAsynchronousJ
  have b1 : szA1 left z ≤ 1048576 := szI_le' h1
  have b2 : szA2 left z ≤ 1048576 := szI_le' b1
  have b3 : szA3 left z ≤ 1048576 := szI_le' b2
  have b4 : szA4 left z ≤ 1048576 := szI_le' b3
  refine ⟨_, szInt64S_spec a z.places _ h.1.1 (by omega) (by omega), ?_⟩
  rw [show szI left z.places.length = szA1 left z from rfl]
  simp
  refine ⟨fun g => by intros; omega, fun g1 => ?_⟩
  refine ⟨_, szInt64S_spec b z.sizes _ h.2.1.1 (by omega) (by omega), ?_⟩
  rw [show szI (szA1 left z) z.sizes.length = szA2 left z from rfl]
  simp
  refine ⟨fun g => by intros; omega, fun g2 => ?_⟩
  refine ⟨_, szInt64S_spec c z.start _ h.2.2.1.1 (by omega) (by omega), ?_⟩
  rw [show szI (szA2 left z) z.start.length = szA3 left z from rfl]
  simp
  refine ⟨fun g => by intros; omega, fun g3 => ?_⟩
  refine ⟨_, szJointSL d z.joints _ h.2.2.2.1 (by omega) (by omega), ?_⟩
  rw [show szI (szA3 left z) (z.joints.length + totJ z.joints) = szA4 left z from rfl]
  simp
  refine ⟨fun g => by intros; omega, fun g4 => ?_⟩
  refine ⟨_, szInt64SSL e z.final _ h.2.2.2.2 (by omega) (by omega), ?_⟩
  rw [show szI (szA4 left z) (z.final.length + totF z.final) = szA5 left z from rfl]
  simp
  refine ⟨fun g => by intros; omega, fun g5 => by first | (intros; omega) | (intro h1 h2 h3 h4 h5; omega) | skip⟩
theorem totF_mem {l : List (Bool × List Int)} : ∀ r ∈ l, r.2.length ≤ totF l := by
  induction l with
  | nil => simp
  | cons x l ih => intro r hr; simp only [totF]; rcases List.mem_cons.1 hr with rfl | hr
                   · omega
                   · have := ih r hr; omega
theorem totJ_mem {l : List JIn} : ∀ r ∈ l, r.2.1.2.length + r.2.2.1.2.length ≤ totJ l := by
  induction l with
  | nil => simp
  | cons x l ih => intro r hr; simp only [totJ]; rcases List.mem_cons.1 hr with rfl | hr
                   · omega
                   · have := ih r hr; omega
theorem total_totF (l : List (Bool × List Int)) : total (l.map Prod.snd) = totF l := by
  induction l with
  | nil => rfl
  | cons x l ih => simp [total, totF, ih]
theorem szI_pos {l : Int} {n : Nat} (h : 0 ≤ szI l n) : szI l n = l - n := by unfold szI at *; split at h <;> simp_all; omega
theorem szAsynchronousL_le {z : AsyI} {left : Int} (h : AsynchronousIn z) (h1 : left ≤ 1048576) (h2 : 0 ≤ szAsynchronousJ left z) : AsynchronousOk z ∧ szAsynchronousJ left z ≤ 1048576 := by
  unfold szAsynchronousJ at h2 ⊢
  by_cases g1 : szA1 left z < 0
  · rw [if_pos g1] at h2; omega
  by_cases g2 : szA2 left z < 0
  · rw [if_neg g1, if_pos g2] at h2; omega
  by_cases g3 : szA3 left z < 0
  · rw [if_neg g1, if_neg g2, if_pos g3] at h2; omega
  by_cases g4 : szA4 left z < 0
  · rw [if_neg g1, if_neg g2, if_neg g3, if_pos g4] at h2; omega
  by_cases g5 : szA5 left z < 0
  · rw [if_neg g1, if_neg g2, if_neg g3, if_neg g4, if_pos g5] at h2; omega
  rw [if_neg g1, if_neg g2, if_neg g3, if_neg g4, if_neg g5] at h2 ⊢
  have e1 : szA1 left z = left - z.places.length := szI_pos (by unfold szA1 at g1; omega)
  have e2 : szA2 left z = szA1 left z - z.sizes.length := szI_pos (by unfold szA2 at g2; omega)
  have e3 : szA3 left z = szA2 left z - z.start.length := szI_pos (by unfold szA3 at g3; omega)
  have e4 : szA4 left z = szA3 left z - (z.joints.length + totJ z.joints : Nat) := szI_pos (by unfold szA4 at g4; omega)
  have e5 : szA5 left z = szA4 left z - (z.final.length + totF z.final : Nat) := szI_pos (by unfold szA5 at g5; omega)
  have hj : JointsOk z.joints := ⟨by omega, fun j hj => by
    have := totJ_mem j hj
    have hh := h.2.2.2.1.2 j hj
    exact ⟨hh.1, listOk_of hh.2.1 (by omega), listOk_of hh.2.2 (by omega)⟩⟩
  have hf : RowsOkF z.final := ⟨by omega, fun r hr => by
    have := totF_mem r hr
    exact listOk_of (h.2.2.2.2.2 r hr) (by omega)⟩
  have p1 : ListOk z.places := listOk_of h.1 (by omega)
  have p2 : ListOk z.sizes := listOk_of h.2.1 (by omega)
  have p3 : ListOk z.start := listOk_of h.2.2.1 (by omega)
  refine ⟨⟨hj, hf, ⟨p1, p2, p3, ?_, ?_⟩, by omega, by omega, by omega⟩, by omega⟩
  · refine ⟨by simpa [AsyI.v] using hj.1, ?_⟩
    intro j hj2
    obtain ⟨y, hy, rfl⟩ := List.mem_map.1 hj2
    exact hj.2 y hy
  · refine ⟨by simpa [AsyI.v] using hf.1, ?_⟩
    intro r hr
    obtain ⟨y, hy, rfl⟩ := List.mem_map.1 hr
    exact hf.2 y hy
theorem toAsynchronousL (a b c d e : Bool) (z : AsyI) (h : AsynchronousOk z) : ACalls1 Tryd.prog 15 [asyIn a b c d e z] (asyOw z.v) := by
  refine walk (fun t => t == 1) mixed Go.Proofs.Tryd.func15 rfl rfl rfl (by kernel_rfl) rfl (by simp) (by kernel_rfl) ?_
  simp
  refine ⟨_, toInt64S_spec _ z.places h.2.2.1.1.1, ?_⟩
  simp
  refine ⟨_, toInt64S_spec _ z.sizes h.2.2.1.2.1.1, ?_⟩
  simp
  refine ⟨_, toInt64S_spec _ z.start h.2.2.1.2.2.1.1, ?_⟩
  simp
  refine ⟨_, toJointSL _ z.joints h.1, ?_⟩
  simp
  refine ⟨_, toInt64SSL _ z.final h.2.1, ?_⟩
  simp [AsyI.v]
theorem eqRowsL (rs : List (List Int)) (hl : rs.length ≤ 1048576) (h : ∀ r ∈ rs, ListOk r) : ACalls1 Tryd.prog 48 [.sl 1 true (srows true rs), .sl 1 true (srows true rs)] (bv true) := by
  refine walk (fun _ => false) mixed Go.Proofs.Tryd.func48 rfl rfl rfl (by kernel_rfl) rfl (by simp) (by kernel_rfl) ?_
  simp
  refine awp_loop2 [0, 1] [] (fun k : Nat => [(5, iv k)]) (fun _ => []) (fun k => k ≤ rs.length) (fun k => rs.length - k) 0 (weak_mk some (by simp) (by simp) rfl) (by simp) ?_
  intro k hk
  by_cases hlt : k < rs.length
  · simp [hlt]
    refine ⟨_, eqInt64SL _ _ _ (h _ (nthR_mem hlt)), ?_⟩
    simp [wrap_id ((k : Int) + 1) (by omega) (by omega)]
    exact Round.mk (k + 1) (weak_mk some (by simp) (by simp) rfl) hlt (by omega)
  · simp [hlt]
theorem eqAsynchronousL (z : AsyV) (h : AsyOk z) : ACalls1 Tryd.prog 17 [asySl z, asySl z] (bv true) := by
  refine walk (fun t => t == 2 || t == 3) mixed Go.Proofs.Tryd.func17 rfl rfl rfl (by kernel_rfl) rfl (by simp) (by kernel_rfl) ?_
  simp
  refine ⟨_, eqInt64SL _ _ z.places h.1, ?_⟩
  simp
  refine ⟨_, eqInt64SL _ _ z.sizes h.2.1, ?_⟩
  simp
  refine ⟨_, eqInt64SL _ _ z.start h.2.2.1, ?_⟩
  simp
  refine ⟨_, eqJointSL z.joints h.2.2.2.1.1 (fun j hj => (h.2.2.2.1.2 j hj).2), ?_⟩
  simp
  refine ⟨_, eqRowsL z.final h.2.2.2.2.1 h.2.2.2.2.2, ?_⟩
  simp
def SzOk (z : AsyV) : Prop := z.sizes.length ≤ 4 ∧ ∀ x ∈ z.sizes, 1 ≤ x ∧ x ≤ 4
theorem SzOk.at {z : AsyV} (h : SzOk z) {p : Nat} (hp : p < z.sizes.length) : 1 ≤ nth z.sizes p ∧ nth z.sizes p ≤ 4 := h.2 _ (nth_mem hp)
theorem l14Local_spec (z : AsyV) (m : Int) (hm : M m) (b : Bool) (l : List Int) (hz : SzOk z) (hl : Fits l) : ACalls1 Tryd.prog 157 [asySl z, iv m, .sl 1 b (ints l)] (bv (isGlob (pick z.sizes m z.sizes.length) l)) := by
  unfold Fits at hl
  have h4 := hz.1
  refine walk (fun t => t == 3) mixed Go.Proofs.Tryd.func157 rfl rfl rfl (by kernel_rfl) rfl (by simp) (by kernel_rfl) ?_
  simp
  refine awp_loop2 [1, 2, 3] [] (fun p : Nat => [(8, iv p), (7, iv (cntB m p))]) (fun _ => []) (fun p => p ≤ z.sizes.length ∧ cntB m p ≤ l.length ∧ ∀ i, i < cntB m p → 0 ≤ nth l i ∧ nth l i ≤ nth (pick z.sizes m z.sizes.length) i - 1) (fun p => z.sizes.length - p) 0 (weak_mk some (by simp [cntB]) (by simp) rfl) (by simp [cntB]) ?_
  rintro p ⟨hp, hc, hi⟩
  by_cases hlt : p < z.sizes.length
  · have hs := hz.at hlt
    simp [hlt]
    refine ⟨_, l01Bit_spec m hm p (by omega), ?_⟩
    cases ht : tb m p
    · simp [wrap_id ((p : Int) + 1) (by omega) (by omega)]
      exact Round.mk (p + 1) (weak_mk some (by simp [cntB_succ, ht]) (by simp) rfl) ⟨hlt, by rw [cntB_succ, ht]; simpa using hc, by rw [cntB_succ, ht]; simpa using hi⟩ (by omega)
    · have hlt' := cntB_lt m hlt ht
      by_cases hat : cntB m p = l.length
      · simp [hat]
        rw [isGlob_badlen (by rw [pick_len]; omega)]
      · have hat2 : cntB m p < l.length := by omega
        have hpa := pick_at z.sizes m hlt ht
        simp [hat, hat2, hlt]
        rw [wrap_id _ (by omega) (by omega)]
        refine ⟨_, l01In_spec _ _ _, ?_⟩
        simp
        refine ⟨fun hb => ?_, fun h1 h2 => ?_⟩
        · rw [isGlob_bad (cntB m p) hat2 (by rw [hpa]; omega)]
        · rw [wrap_id _ (by omega) (by omega), wrap_id _ (by omega) (by omega)]
          have e : cntB m (p + 1) = cntB m p + 1 := by rw [cntB_succ, ht]; rfl
          refine Round.mk (p + 1) (weak_mk some (by simp [e]) (by simp) rfl) ⟨hlt, by rw [e]; omega, ?_⟩ (by omega)
          intro i hi2
          rw [e] at hi2
          by_cases hie : i = cntB m p
          · subst hie; rw [hpa]; omega
          · exact hi i (by omega)
  · obtain rfl : p = z.sizes.length := by omega
    simp
    by_cases he : cntB m z.sizes.length = l.length
    · have : isGlob (pick z.sizes m z.sizes.length) l = true := isGlob_iff.2 ⟨by rw [pick_len, he], fun i h => hi i (by omega)⟩
      simp [he, this]
    · rw [isGlob_badlen (by rw [pick_len]; omega)]
      simp [he]
theorem l14Global_spec (z : AsyV) (b : Bool) (l : List Int) (hz : SzOk z) (hl : Fits l) : ACalls1 Tryd.prog 123 [asySl z, .sl 1 b (ints l)] (bv (isGlob z.sizes l)) := by
  have h4 := hz.1
  refine walk (fun t => t == 2) mixed Go.Proofs.Tryd.func123 rfl rfl rfl (by kernel_rfl) rfl (by simp) (by kernel_rfl) ?_
  simp
  refine ⟨_, l01Full_spec _ (by unfold I64; omega), ?_⟩
  simp
  refine ⟨_, l14Local_spec z _ (full_M (n := z.sizes.length) (by omega) (by have := (M_full (n := z.sizes.length) (by omega)).1; omega) (by omega)) b l hz hl, ?_⟩
  rw [pick_all z.sizes.length (Nat.le_refl _) (fun i hi => by rw [tb_full (by omega)]; simpa using hi), List.take_length]
  simp
theorem l14Joints_spec (z : AsyV) (hz : SzOk z) (ho : AsyOk z) (hp : ∀ a, a < z.places.length → M (nth z.places a)) : ACalls1 Tryd.prog 124 [asySl z] (bv (jointsOk z)) := by
  obtain ⟨⟨o1, _⟩, ⟨o2, _⟩, ⟨o3, _⟩, ⟨o4, o5⟩, o6, o7⟩ := ho
  unfold Fits at o1 o2 o3
  refine walk (fun t => t == 1) mixed Go.Proofs.Tryd.func124 rfl rfl rfl (by kernel_rfl) rfl (by simp) (by kernel_rfl) ?_
  simp
  refine awp_loop2 [1] [] (fun i : Nat => [(3, iv i)]) (fun _ => []) (fun i => i ≤ z.joints.length ∧ ∀ j, j < i → jOk z j = true) (fun i => z.joints.length - i) 0 (weak_mk some (by simp) (by simp) rfl) (by simp) ?_
  rintro i ⟨hi, hall⟩
  by_cases hlt : i < z.joints.length
  · have hj := o5 _ (nthJ_mem hlt)
    have bad : jOk z i = false → jointsOk z = false := fun hb => by
      unfold jointsOk
      rw [show (List.range z.joints.length).all (jOk z) = false from List.all_eq_false.2 ⟨i, by simpa using hlt, by simp [hb]⟩]; rfl
    have hw : IntKind.i64.wrap ((z.places.length : Int) - 1) = (z.places.length : Int) - 1 := wrap_id _ (by omega) (by omega)
    simp [hlt, hw]
    repeat (refine And.intro (by omega) ?_)
    refine ⟨_, l01In_spec _ _ _, ?_⟩
    by_cases hin : 0 ≤ (nthJ z.joints i).1 ∧ (nthJ z.joints i).1 ≤ (z.places.length : Int) - 1
    · obtain ⟨a, ha⟩ := Int.eq_ofNat_of_zero_le hin.1
      have hal : a < z.places.length := by omega
      simp [ha, hal, show (a : Int) ≤ (z.places.length : Int) - 1 by omega]
      refine ⟨_, l14Local_spec z _ (hp a hal) true _ hz hj.2.1.1, ?_⟩
      cases hg1 : isGlob (pick z.sizes (nth z.places a) z.sizes.length) (nthJ z.joints i).2.1
      · rw [bad (by unfold jOk; simp [ha, hg1])]
        simp
      · simp [hal]
        refine ⟨_, l14Local_spec z _ (hp a hal) true _ hz hj.2.2.1, ?_⟩
        cases hg2 : isGlob (pick z.sizes (nth z.places a) z.sizes.length) (nthJ z.joints i).2.2
        · rw [bad (by unfold jOk; simp [ha, hg2])]
          simp
        · have done : jOk z i = true → ∀ j, j < i + 1 → jOk z j = true := fun hb j hj2 => by
            by_cases e : j = i
            · subst e; exact hb
            · exact hall j (by omega)
          by_cases h0 : i = 0
          · simp [h0, wrap_id ((i : Int) + 1) (by omega) (by omega)]
            rw [wrap_id _ (by omega) (by omega)]
            refine Round.mk (i + 1) (weak_mk some (by simp [h0]) (by simp) rfl) ⟨hlt, done ?_⟩ (by omega)
            unfold jOk
            rw [ha]
            simp [hg1, hg2]
            exact ⟨by omega, .inl h0⟩
          · obtain ⟨k, hk⟩ : ∃ k, i = k + 1 := ⟨i - 1, by omega⟩
            have hwi : IntKind.i64.wrap ((i : Int) - 1) = (k : Int) := by rw [wrap_id _ (by omega) (by omega)]; omega
            have hkl : k < z.joints.length := by omega
            have hjk := o5 _ (nthJ_mem hkl)
            have hv : jOk z i = decide (cmpJ (nthJ z.joints k) (nthJ z.joints i) < 0) := by
              unfold jOk
              rw [show i - 1 = k by omega]
              simp [ha, hg1, hg2, h0]
              intro _; omega
            have hc : cmpJ (nthJ z.joints k) (nthJ z.joints i) = if (nthJ z.joints k).1 ≠ (a : Int) then (nthJ z.joints k).1 - a else lexC (nthJ z.joints k).2.1 (nthJ z.joints i).2.1 := by unfold cmpJ; rw [ha]
            simp [show 0 < i by omega, h0, hwi, hkl]
            refine ⟨fun hle => ⟨fun he => ?_, fun hne => ?_⟩, fun hlt2 => ?_⟩
            · refine ⟨_, l01Less_spec _ _ _ _ hjk.2.1.1 hj.2.1.1, ?_⟩
              rw [if_neg (by simpa using he.symm)] at hc
              rw [hc] at hv
              simp
              refine ⟨fun hb => bad (by rw [hv]; simpa using hb), fun hb => ?_⟩
              rw [wrap_id _ (by omega) (by omega)]
              exact Round.mk (i + 1) (weak_mk some (by simp) (by simp) rfl) ⟨hlt, done (by rw [hv]; simpa using hb)⟩ (by omega)
            · rw [if_pos (by omega)] at hc
              rw [wrap_id _ (by omega) (by omega)]
              exact Round.mk (i + 1) (weak_mk some (by simp) (by simp) rfl) ⟨hlt, done (by rw [hv, hc]; simp; omega)⟩ (by omega)
            · rw [if_pos (by omega)] at hc
              exact bad (by rw [hv, hc]; simp; omega)
    · rw [bad (by unfold jOk; simp; omega)]
      simp
      intro h1 h2
      omega
  · obtain rfl : i = z.joints.length := by omega
    have : (List.range z.joints.length).all (jOk z) = true := by simpa using hall
    simp [jointsOk, this]
    omega
theorem isAsy_facts {z : AsyV} (h : isAsy z = true) : SzOk z ∧ (∀ a, a < z.places.length → M (nth z.places a) ∧ ∀ i, z.sizes.length ≤ i → tb (nth z.places a) i = false) ∧ isGlob z.sizes z.start = true ∧ jointsOk z = true ∧ finalOk z = true ∧ z.places.length ≤ 8 := by
  simp only [isAsy, Bool.and_eq_true, sizesOk, arePl, List.all_eq_true, decide_eq_true_eq] at h
  obtain ⟨⟨⟨⟨⟨⟨⟨h1, h2⟩, h3⟩, h4⟩, h5⟩, h6⟩, h7⟩, h8⟩ := h
  refine ⟨⟨by omega, fun x hx => by have := h5 x hx; exact this⟩, fun a ha => ?_, h6, h7, h8, by omega⟩
  have := h4 _ (nth_mem ha)
  exact ⟨full_M (n := z.sizes.length) (by omega) (by omega) this.2, fun i hi => tb_of_le (n := z.sizes.length) (by omega) (by omega) this.2 hi⟩
theorem joint_facts {z : AsyV} (h : jointsOk z = true) {i : Nat} (hi : i < z.joints.length) : (∃ a : Nat, (nthJ z.joints i).1 = a ∧ a < z.places.length ∧ (nthJ z.joints i).2.1.length = cntB (nth z.places a) z.sizes.length ∧ (nthJ z.joints i).2.2.length = cntB (nth z.places a) z.sizes.length) := by
  simp only [jointsOk, Bool.and_eq_true, List.all_eq_true, List.mem_range] at h
  have := h.1 i hi
  simp only [jOk, Bool.and_eq_true, Bool.or_eq_true, decide_eq_true_eq] at this
  obtain ⟨⟨⟨⟨h1, h2⟩, h3⟩, h4⟩, _⟩ := this
  obtain ⟨a, ha⟩ := Int.eq_ofNat_of_zero_le h1
  rw [ha] at h2 h3 h4
  exact ⟨a, ha, by omega, by rw [isGlob_len h3, pick_len]; rfl, by rw [isGlob_len h4, pick_len]; rfl⟩
theorem specIsAsynchronous_spec (z : AsyV) (ho : AsyOk z) : ACalls1 Tryd.prog 51 [asySl z] (bv (isAsy z)) := by
  have ho' := ho
  obtain ⟨⟨o1, _⟩, ⟨o2, o2'⟩, ⟨o3, _⟩, ⟨o4, o5⟩, o6, o7⟩ := ho'
  unfold Fits at o2
  refine walk (fun t => t == 1) mixed Go.Proofs.Tryd.func51 rfl rfl rfl (by kernel_rfl) rfl (by simp) (by kernel_rfl) ?_
  simp
  refine ⟨_, l14Places_spec _ (by unfold I64; omega) _ _ o1, ?_⟩
  cases hp : arePl z.sizes.length z.places
  · simp [isAsy, hp]
  · simp
    have hp4 : z.sizes.length ≤ 4 := by simp [arePl] at hp; omega
    have hpm : ∀ a, a < z.places.length → M (nth z.places a) := fun a ha => by
      simp only [arePl, Bool.and_eq_true, List.all_eq_true, decide_eq_true_eq] at hp
      have := hp.2 _ (nth_mem ha)
      exact full_M (n := z.sizes.length) (by omega) (by omega) this.2
    refine awp_loop2 [1] [] (fun i : Nat => [(3, iv i)]) (fun _ => []) (fun i => i ≤ z.sizes.length ∧ ∀ j, j < i → 1 ≤ nth z.sizes j ∧ nth z.sizes j ≤ 4) (fun i => z.sizes.length - i) 0 (weak_mk some (by simp) (by simp) rfl) (by simp) ?_
    rintro i ⟨hi, hall⟩
    by_cases hlt : i < z.sizes.length
    · simp [hlt]
      refine ⟨_, l01In_spec _ _ _, ?_⟩
      simp
      refine ⟨fun hb => ?_, fun h1 h2 => ?_⟩
      · have : sizesOk z = false := by
          unfold sizesOk
          exact List.all_eq_false.2 ⟨nth z.sizes i, nth_mem hlt, by simp; omega⟩
        simp [isAsy, this]
      · rw [wrap_id _ (by omega) (by omega)]
        refine Round.mk (i + 1) (weak_mk some (by simp) (by simp) rfl) ⟨hlt, fun j hj => ?_⟩ (by omega)
        by_cases e : j = i
        · subst e; exact ⟨h1, h2⟩
        · exact hall j (by omega)
    · obtain rfl : i = z.sizes.length := by omega
      have hz : SzOk z := ⟨hp4, fun x hx => by
        obtain ⟨j, hj, rfl⟩ := List.mem_iff_getElem.1 hx
        have := hall j hj
        rwa [nth_at hj] at this⟩
      have hsz : sizesOk z = true := by
        unfold sizesOk
        rw [List.all_eq_true]
        intro x hx
        have := hz.2 x hx
        simpa using this
      simp
      refine ⟨_, l14Global_spec z true z.start hz o3, ?_⟩
      cases hs : isGlob z.sizes z.start
      · simp [isAsy, hs]
      · simp
        refine ⟨_, l14Joints_spec z hz ho hpm, ?_⟩
        cases hj : jointsOk z
        · simp [isAsy, hj]
        · simp
          have hv : isAsy z = finalOk z := by simp [isAsy, hp, hsz, hs, hj]
          refine awp_loop2 [1] [] (fun i : Nat => [(4, iv i)]) (fun _ => []) (fun i => i ≤ z.final.length ∧ ∀ j, j < i → fOk z j = true) (fun i => z.final.length - i) 0 (weak_mk some (by simp) (by simp) rfl) (by simp) ?_
          rintro i ⟨hi, hall⟩
          by_cases hlt : i < z.final.length
          · have hf := o7 _ (nthR_mem hlt)
            have bad : fOk z i = false → isAsy z = false := fun hb => by
              rw [hv]
              unfold finalOk
              rw [show (List.range z.final.length).all (fOk z) = false from List.all_eq_false.2 ⟨i, by simpa using hlt, by simp [hb]⟩]; rfl
            have done : fOk z i = true → ∀ j, j < i + 1 → fOk z j = true := fun hb j hj2 => by
              by_cases e : j = i
              · subst e; exact hb
              · exact hall j (by omega)
            simp [hlt]
            refine ⟨_, l14Global_spec z true _ hz hf.1, ?_⟩
            cases hg : isGlob z.sizes (nthR z.final i)
            · rw [bad (by unfold fOk; simp [hg])]
              simp
            · by_cases h0 : i = 0
              · simp [h0]
                refine Round.mk (i + 1) (weak_mk some (by simp [h0]; decide) (by simp) rfl) ⟨hlt, done (by unfold fOk; rw [hg, h0]; simp)⟩ (by omega)
              · obtain ⟨k, hk⟩ : ∃ k, i = k + 1 := ⟨i - 1, by omega⟩
                have hwi : IntKind.i64.wrap ((i : Int) - 1) = (k : Int) := by rw [wrap_id _ (by omega) (by omega)]; omega
                have hkl : k < z.final.length := by omega
                have hfk := o7 _ (nthR_mem hkl)
                have hfv : fOk z i = decide (lexC (nthR z.final k) (nthR z.final i) < 0) := by
                  unfold fOk
                  rw [show i - 1 = k by omega, hg]
                  simp [h0]
                simp [show 0 < i by omega, h0, hwi, hkl, hlt]
                refine ⟨_, l01Less_spec _ _ _ _ hfk.1 hf.1, ?_⟩
                simp
                refine ⟨fun hb => bad (by rw [hfv]; simpa using hb), fun hb => ?_⟩
                rw [wrap_id _ (by omega) (by omega)]
                exact Round.mk (i + 1) (weak_mk some (by simp) (by simp) rfl) ⟨hlt, done (by rw [hfv]; simpa using hb)⟩ (by omega)
          · obtain rfl : i = z.final.length := by omega
            have : (List.range z.final.length).all (fOk z) = true := by simpa using hall
            rw [hv]
            simp [finalOk, this]
            omega
theorem l14Part_spec (b : Bool) (g : List Int) (m : Int) (hm : M m) (hg : g.length ≤ 4) : ACalls1 Tryd.prog 173 [.sl 1 b (ints g), iv m] (.own 1 true (ints (pick g m g.length))) := by
  refine walk (fun _ => false) mixed Go.Proofs.Tryd.func173 rfl rfl rfl (by kernel_rfl) rfl (by simp) (by kernel_rfl) ?_
  simp
  refine awp_loop2 [0, 1] [] (fun p : Nat => [(6, iv p), (5, .ref 200)]) (fun p => [(200, .own 1 true (ints (pick g m p)))]) (fun p => p ≤ g.length) (fun p => g.length - p) 0 (weak_mk (fun t => if t = 200 then some 7 else some t) (by simp) (by simp [pick]) rfl) (by simp) ?_
  intro p hp
  by_cases hlt : p < g.length
  · simp [hlt]
    refine ⟨_, l01Bit_spec m hm p (by omega), ?_⟩
    have hl := pick_length g m p
    cases ht : tb m p
    · simp [wrap_id ((p : Int) + 1) (by omega) (by omega)]
      exact Round.mk (p + 1) (weak_mk (fun t => if t = 200 then some 200 else some t) (by simp) (by simp [pick_succ, ht]) rfl) hlt (by omega)
    · simp [hlt]
      repeat (refine And.intro (by omega) ?_)
      rw [wrap_id _ (by omega) (by omega)]
      exact Round.mk (p + 1) (weak_mk (fun t => if t = 200 then some 23 else some t) (by simp) (by simp [pick_succ, ht]) rfl) hlt (by omega)
  · obtain rfl : p = g.length := by omega
    simp
theorem l14Final_spec (z : AsyV) (ho : AsyOk z) (b : Bool) (g : List Int) (hg : Fits g) : ACalls1 Tryd.prog 129 [asySl z, .sl 1 b (ints g)] (bv (decide (g ∈ z.final))) := by
  refine walk (fun t => t == 2) mixed Go.Proofs.Tryd.func129 rfl rfl rfl (by kernel_rfl) rfl (by simp) (by kernel_rfl) ?_
  simp
  refine ⟨_, l12Has_spec true b z.final ho.2.2.2.2.1 ho.2.2.2.2.2 g hg, ?_⟩
  simp
theorem l14Step_spec (z : AsyV) (hz : isAsy z = true) (ho : AsyOk z) (b : Bool) (g : List Int) (hg : g.length = z.sizes.length) (a : Nat) (ha : a < z.places.length) :
    ACalls1 Tryd.prog 160 [asySl z, .sl 1 b (ints g), iv a] (.tup [.own 1 (stepV z g a).isSome (ints ((stepV z g a).getD [])), bv (stepV z g a).isSome]) := by
  obtain ⟨⟨f1, f2⟩, f3, f4, f5, f6, f7⟩ := isAsy_facts hz
  obtain ⟨⟨o1, _⟩, ⟨o2, o2'⟩, ⟨o3, _⟩, ⟨o4, o5⟩, o6, o7⟩ := ho
  have hM := (f3 a ha).1
  have hT := (f3 a ha).2
  refine walk (fun t => t == 3) mixed Go.Proofs.Tryd.func160 rfl rfl rfl (by kernel_rfl) rfl (by simp) (by kernel_rfl) ?_
  simp [ha]
  refine ⟨_, l14Part_spec b g _ hM (by omega), ?_⟩
  rw [show pick g (nth z.places a) g.length = ownP z g a from rfl]
  have hown : (ownP z g a).length ≤ 4 := by have := pick_length g (nth z.places a) g.length; unfold ownP; omega
  simp
  refine awp_loop2 [1, 2, 3, 8] [19] (fun i : Nat => [(9, iv i)]) (fun _ => []) (fun i => i ≤ z.joints.length ∧ ∀ j, j < i → (decide ((nthJ z.joints j).1 = (a : Int)) && decide ((nthJ z.joints j).2.1 = ownP z g a)) = false) (fun i => z.joints.length - i) 0 (weak_mk some (by simp) (by simp) rfl) (by simp) ?_
  rintro i ⟨hi, hall⟩
  by_cases hlt : i < z.joints.length
  · have hj := o5 _ (nthJ_mem hlt)
    have next : (decide ((nthJ z.joints i).1 = (a : Int)) && decide ((nthJ z.joints i).2.1 = ownP z g a)) = false → ∀ j, j < i + 1 → (decide ((nthJ z.joints j).1 = (a : Int)) && decide ((nthJ z.joints j).2.1 = ownP z g a)) = false := fun hb j hj => by
      by_cases e : j = i
      · subst e; exact hb
      · exact hall j (by omega)
    simp [hlt]
    refine ⟨fun hle => ?_, fun hne => ?_⟩
    · refine ⟨_, l01Same_spec _ _ _ _ hj.2.1.1 (by unfold Fits; omega), ?_⟩
      by_cases hs : (nthJ z.joints i).2.1 = ownP z g a
      · have hI : stepI z g a = some i := find_range hlt (by simp [hle, hs]) hall
        have hV : stepV z g a = some (stepTo z g a i) := by unfold stepV; rw [hI]; rfl
        obtain ⟨a', ha1, ha2, ha3, ha4⟩ := joint_facts f5 hlt
        obtain rfl : a' = a := by omega
        rw [hV]
        simp [hs]
        refine ⟨_, l01Own_spec b g (by unfold Fits; omega), ?_⟩
        simp
        refine awp_loop2 [1, 2, 3, 9, 10] [] (fun p : Nat => [(12, iv p), (11, iv (cntB (nth z.places a') p))]) (fun p => [(47, .own 1 true (ints (putL g (bitsOf (nth z.places a')) (nthJ z.joints i).2.2 (cntB (nth z.places a') p))))]) (fun p => p ≤ g.length) (fun p => g.length - p) 0 (weak_mk some (by simp [cntB]) (by simp [cntB, putL]) rfl) (by simp) ?_
        intro p hp
        by_cases hlp : p < g.length
        · simp [hlp, ha, hlt]
          refine ⟨_, l01Bit_spec _ hM p (by omega), ?_⟩
          cases ht : tb (nth z.places a') p
          · simp [wrap_id ((p : Int) + 1) (by omega) (by omega)]
            refine Round.mk (p + 1) (weak_mk some (by simp [cntB_succ, ht]) (by simp [cntB_succ, ht]) rfl) hlp (by omega)
          · have hc := cntB_lt (nth z.places a') hlp ht
            have hb := bits_at (m := nth z.places a') (show p < 63 by omega) ht
            have hcl : cntB (nth z.places a') p < (nthJ z.joints i).2.2.length := by rw [ha4, ← hg]; exact hc
            simp [hlt, hlp, hcl]
            refine ⟨by omega, ?_⟩
            have hf2 := hj.2.2.1
            unfold Fits at hf2
            have e : cntB (nth z.places a') (p + 1) = cntB (nth z.places a') p + 1 := by rw [cntB_succ, ht]; rfl
            rw [ints_put _ _ _ (by simpa using hlp), wrap_id _ (by omega) (by omega), wrap_id _ (by omega) (by omega)]
            exact Round.mk (p + 1) (weak_mk some (by simp [e]) (by simp [e, putL, hb]) rfl) hlp (by omega)
        · obtain rfl : p = g.length := by omega
          simp [stepTo]
      · simp [hs, wrap_id ((i : Int) + 1) (by omega) (by omega)]
        exact Round.mk (i + 1) (weak_mk some (by simp) (by simp) rfl) ⟨hlt, by simpa using next (by simp [hs])⟩ (by omega)
    · simp [wrap_id ((i : Int) + 1) (by omega) (by omega)]
      exact Round.mk (i + 1) (weak_mk some (by simp) (by simp) rfl) ⟨hlt, by simpa using next (by simp [hne])⟩ (by omega)
  · obtain rfl : i = z.joints.length := by omega
    have hV : stepV z g a = none := by unfold stepV; rw [stepI, find_range_none hall]; rfl
    rw [hV]
    simp
theorem overW_facts {n : Nat} {w : List Int} (h : overW n w = true) : w.length ≤ 24 ∧ ∀ k, k < w.length → ∃ a : Nat, nth w k = a ∧ a < n := by
  simp only [overW, Bool.and_eq_true, List.all_eq_true, decide_eq_true_eq] at h
  refine ⟨by omega, fun k hk => ?_⟩
  have := h.2 _ (nth_mem hk)
  obtain ⟨a, ha⟩ := Int.eq_ofNat_of_zero_le this.1
  exact ⟨a, ha, by omega⟩
theorem runV_succ (z : AsyV) (g w : List Int) {k : Nat} (hk : k < w.length) : runV z g (w.take (k + 1)) = (runV z g (w.take k)).bind fun g' => stepV z g' (nth w k).toNat := by
  rw [take_succ _ _ hk]; exact runV_app z g _ _
theorem runV_fail {z : AsyV} {g w : List Int} {k : Nat} (h : runV z g (w.take k) = none) : runV z g w = none := by
  have := runV_pre z g (w.take k) (w.drop k) h
  rwa [List.take_append_drop] at this
theorem isGlobal_spec (a b : Bool) (s g : List Int) (hs : s.length ≤ 4 ∧ ∀ x ∈ s, 1 ≤ x ∧ x ≤ 4) (hg : Fits g) : ACalls1 Tryd.prog 131 [.sl 1 a (ints s), .sl 1 b (ints g)] (bv (isGlob s g)) := by
  unfold Fits at hg
  refine walk (fun _ => false) mixed Go.Proofs.Tryd.func131 rfl rfl rfl (by kernel_rfl) rfl (by simp) (by kernel_rfl) ?_
  simp
  refine ⟨fun h => by rw [isGlob_badlen (by omega)], fun he => ?_⟩
  refine awp_loop2 [0, 12, 13] [] (fun k : Nat => [(14, iv k)]) (fun _ => []) (fun k => k ≤ g.length ∧ ∀ p, p < k → 0 ≤ nth g p ∧ nth g p ≤ nth s p - 1) (fun k => g.length - k) 0 (weak_mk some (by simp) (by simp) rfl) (by simp) ?_
  rintro k ⟨hk, hall⟩
  by_cases hlt : k < g.length
  · have hk2 : k < s.length := by omega
    have hsk := hs.2 _ (nth_mem hk2)
    have hw : IntKind.i64.wrap (nth s k - 1) = nth s k - 1 := wrap_id _ (by omega) (by omega)
    simp [hlt, hk2, hw]
    refine ⟨_, inRange_spec _ _ _, ?_⟩
    simp
    refine ⟨fun hb => ?_, fun h1 h2 => ?_⟩
    · rw [isGlob_bad k hlt (by omega)]
    · rw [wrap_id _ (by omega) (by omega)]
      refine Round.mk (k + 1) (weak_mk some (by simp) (by simp) rfl) ⟨hlt, fun p hp => ?_⟩ (by omega)
      by_cases e : p = k
      · subst e; exact ⟨h1, h2⟩
      · exact hall p (by omega)
  · obtain rfl : k = g.length := by omega
    simp
    exact isGlob_iff.2 ⟨he, hall⟩
theorem locals_spec (nn : Bool) (l : List Int) (m : Int) (hm : M m) (h63 : l.length ≤ 63) (hb : ∀ i, l.length ≤ i → tb m i = false) : ACalls1 Tryd.prog 134 [.sl 1 nn (ints l), iv m] (.own 1 true (ints (pick l m l.length))) := by
  rw [← pick_bits h63 hb]
  refine walk (fun _ => false) mixed Go.Proofs.Tryd.func134 rfl rfl rfl (by kernel_rfl) rfl (by simp) (by kernel_rfl) ?_
  simp
  refine ⟨_, members_spec m hm, ?_⟩
  have hl := bitsOf_length m
  have hmem := fun i (hi : i ∈ bitsOf m) => bitsOf_mem hi
  generalize bitsOf m = b at *
  simp
  refine awp_loop2 [0, 10, 11] [10] (fun k : Nat => [(12, iv k), (5, .ref 100)]) (fun k => [(100, .own 1 true (ints ((b.take k).map fun i => nth l i.toNat)))]) (fun k => k ≤ b.length) (fun k => b.length - k) 0 (weak_mk (fun t => if t = 100 then some 8 else some t) (by simp) (by simp) rfl) (by simp) ?_
  intro k hk
  by_cases hlt : k < b.length
  · obtain ⟨j, hj, hj63, hjt⟩ := hmem _ (nth_mem hlt)
    have hjl : j < l.length := by
      apply Nat.lt_of_not_le
      intro hle
      rw [hb j hle] at hjt; cases hjt
    simp [hlt, hj, hjl, show k + 1 ≤ b.length from hlt, wrap_id ((k : Int) + 1) (by omega) (by omega)]
    repeat (refine And.intro (by omega) ?_)
    refine Round.mk (k + 1) (weak_mk (fun t => if t = 100 then some 22 else some t) (by simp) ?_ rfl) hlt (by omega)
    have e : b.getD k 0 = nth b k := rfl
    have e2 : (b.map fun i => nth l i.toNat).take (k + 1) = (b.map fun i => nth l i.toNat).take k ++ [nth l j] := by rw [← List.map_take, ← List.map_take, take_succ _ _ hlt, e, hj]; simp
    simp [e2]
  · obtain rfl : k = b.length := by omega
    simp
def TailOk (x : AV) : Prop := x = .val (.slice none 0 0) ∨ ∃ l, x = .sl 1 true (ints l)
theorem compareJoints_spec (j : J3) (a : Int) (b : Bool) (own : List Int) (x : AV) (hx : TailOk x) (hj : 0 ≤ j.1 ∧ j.1 ≤ 1099511627776) (ha : 0 ≤ a ∧ a ≤ 1099511627776) (hl : Fits j.2.1) (hm : Fits own) :
    ACalls1 Tryd.prog 136 [.agg [iv j.1, .sl 1 true (ints j.2.1), .sl 1 true (ints j.2.2)], .agg [iv a, .sl 1 b (ints own), x]] (iv (cmpJ j (a, own, []))) := by
  have hc : cmpJ j (a, own, []) = if j.1 ≠ a then j.1 - a else lexC j.2.1 own := rfl
  rcases hx with rfl | ⟨l, rfl⟩
  all_goals
    refine walk (fun t => t == 2 || t == 3) mixed Go.Proofs.Tryd.func136 rfl rfl rfl (by kernel_rfl) rfl (by simp) (by kernel_rfl) ?_
    simp
    refine ⟨fun hne => ?_, fun he => ?_⟩
    · rw [wrap_id _ (by omega) (by omega), hc, if_pos hne]
    · refine ⟨_, slCompare_spec _ _ _ _ hl hm, ?_⟩
      rw [if_neg (by simpa using he)] at hc
      simp [hc]
theorem goodJoints_spec (z : AsyV) (hz : SzOk z) (ho : AsyOk z) (hp : ∀ a, a < z.places.length → M (nth z.places a) ∧ ∀ i, z.sizes.length ≤ i → tb (nth z.places a) i = false) : ACalls1 Tryd.prog 132 [asySl z] (bv (jointsOk z)) := by
  have hpl := ho.1.1
  obtain ⟨⟨o1, _⟩, ⟨o2, _⟩, ⟨o3, _⟩, ⟨o4, o5⟩, o6, o7⟩ := ho
  unfold Fits at o1 o2 o3
  have h4 := hz.1
  refine walk (fun t => t == 1 || t == 3030) mixed Go.Proofs.Tryd.func132 rfl rfl rfl (by kernel_rfl) rfl (by simp) (by kernel_rfl) ?_
  simp
  refine awp_loop2 [1, 7, 8] [] (fun i : Nat => [(9, iv i)]) (fun _ => []) (fun i => i ≤ z.joints.length ∧ ∀ j, j < i → jOk z j = true) (fun i => z.joints.length - i) 0 (weak_mk some (by simp) (by simp) rfl) (by simp) ?_
  rintro i ⟨hi, hall⟩
  by_cases hlt : i < z.joints.length
  · have hj := o5 _ (nthJ_mem hlt)
    have bad : jOk z i = false → jointsOk z = false := fun hb => by
      unfold jointsOk
      rw [show (List.range z.joints.length).all (jOk z) = false from List.all_eq_false.2 ⟨i, by simpa using hlt, by simp [hb]⟩]; rfl
    have hw : IntKind.i64.wrap ((z.places.length : Int) - 1) = (z.places.length : Int) - 1 := wrap_id _ (by omega) (by omega)
    simp [hlt]
    refine ⟨_, length_spec _ _ hpl, ?_⟩
    simp [hw]
    refine ⟨_, inRange_spec _ _ _, ?_⟩
    by_cases hin : 0 ≤ (nthJ z.joints i).1 ∧ (nthJ z.joints i).1 ≤ (z.places.length : Int) - 1
    · obtain ⟨a, ha⟩ := Int.eq_ofNat_of_zero_le hin.1
      have hal : a < z.places.length := by omega
      simp [ha, hal, show (a : Int) ≤ (z.places.length : Int) - 1 by omega]
      refine ⟨_, locals_spec _ z.sizes _ (hp a hal).1 (by omega) (hp a hal).2, ?_⟩
      have hpk : (pick z.sizes (nth z.places a) z.sizes.length).length ≤ 4 ∧ ∀ x ∈ pick z.sizes (nth z.places a) z.sizes.length, 1 ≤ x ∧ x ≤ 4 :=
        ⟨by have := pick_length z.sizes (nth z.places a) z.sizes.length; omega, fun x hx => hz.2 x (pick_mem (Nat.le_refl _) x hx)⟩
      simp
      refine ⟨_, isGlobal_spec _ true _ _ hpk hj.2.1.1, ?_⟩
      cases hg1 : isGlob (pick z.sizes (nth z.places a) z.sizes.length) (nthJ z.joints i).2.1
      · rw [bad (by unfold jOk; simp [ha, hg1])]
        simp
      · simp
        refine ⟨_, isGlobal_spec _ true _ _ hpk hj.2.2.1, ?_⟩
        cases hg2 : isGlob (pick z.sizes (nth z.places a) z.sizes.length) (nthJ z.joints i).2.2
        · rw [bad (by unfold jOk; simp [ha, hg2])]
          simp
        · have done : jOk z i = true → ∀ j, j < i + 1 → jOk z j = true := fun hb j hj2 => by
            by_cases e : j = i
            · subst e; exact hb
            · exact hall j (by omega)
          by_cases h0 : i = 0
          · simp [h0]
            have hv : jOk z i = true := by
              unfold jOk
              rw [ha]
              simp [hg1, hg2]
              exact ⟨by omega, .inl h0⟩
            exact Round.mk (i + 1) (weak_mk some (by simp [h0]; decide) (by simp) rfl) ⟨hlt, done hv⟩ (by omega)
          · obtain ⟨k, hk⟩ : ∃ k, i = k + 1 := ⟨i - 1, by omega⟩
            have hwi : IntKind.i64.wrap ((i : Int) - 1) = (k : Int) := by rw [wrap_id _ (by omega) (by omega)]; omega
            have hkl : k < z.joints.length := by omega
            have hjk := o5 _ (nthJ_mem hkl)
            have hv : jOk z i = decide (cmpJ (nthJ z.joints k) (nthJ z.joints i) < 0) := by
              unfold jOk
              rw [show i - 1 = k by omega]
              simp [ha, hg1, hg2, h0]
              intro _; omega
            have hkb : 0 ≤ (nthJ z.joints k).1 ∧ (nthJ z.joints k).1 ≤ 1099511627776 := by
              have := hall k (by omega)
              simp only [jOk, Bool.and_eq_true, decide_eq_true_eq] at this
              omega
            simp [show 0 < i by omega, h0, hwi, hkl]
            refine ⟨_, compareJoints_spec (nthJ z.joints k) a true (nthJ z.joints i).2.1 _ (.inr ⟨_, rfl⟩) hkb (by omega) hjk.2.1.1 hj.2.1.1, ?_⟩
            rw [show cmpJ (nthJ z.joints k) ((a : Int), (nthJ z.joints i).2.1, []) = cmpJ (nthJ z.joints k) (nthJ z.joints i) by unfold cmpJ; rw [ha]]
            simp
            refine ⟨fun hb => bad (by rw [hv]; simp; omega), fun hb => ?_⟩
            rw [wrap_id _ (by omega) (by omega)]
            exact Round.mk (i + 1) (weak_mk some (by simp) (by simp) rfl) ⟨hlt, done (by rw [hv]; simpa using hb)⟩ (by omega)
    · rw [bad (by unfold jOk; simp; omega)]
      simp
      intro h1 h2
      omega
  · obtain rfl : i = z.joints.length := by omega
    have : (List.range z.joints.length).all (jOk z) = true := by simpa using hall
    simp [jointsOk, this]
    omega
theorem IsAsynchronous_spec (z : AsyV) (ho : AsyOk z) : ACalls1 Tryd.prog 55 [asySl z] (bv (isAsy z)) := by
  have ho' := ho
  obtain ⟨⟨o1, _⟩, ⟨o2, o2'⟩, ⟨o3, _⟩, ⟨o4, o5⟩, o6, o7⟩ := ho'
  have o2f := o2
  unfold Fits at o2
  refine walk (fun t => t == 1) mixed Go.Proofs.Tryd.func55 rfl rfl rfl (by kernel_rfl) rfl (by simp) (by kernel_rfl) ?_
  simp
  refine ⟨_, length_spec _ _ o2f, ?_⟩
  simp
  refine ⟨_, arePlaces_spec _ _ _ o1, ?_⟩
  cases hp : arePl z.sizes.length z.places
  · simp [isAsy, hp]
  · simp
    have hp' := hp
    simp only [arePl, Bool.and_eq_true, List.all_eq_true, decide_eq_true_eq] at hp'
    have hp4 : z.sizes.length ≤ 4 := by omega
    have hpm : ∀ a, a < z.places.length → M (nth z.places a) ∧ ∀ i, z.sizes.length ≤ i → tb (nth z.places a) i = false := fun a ha => by
      have := hp'.2 _ (nth_mem ha)
      exact ⟨full_M (n := z.sizes.length) (by omega) (by omega) this.2, fun i hi => tb_of_le (n := z.sizes.length) (by omega) (by omega) this.2 hi⟩
    refine ⟨_, allIn_spec _ z.sizes 1 4 o2f, ?_⟩
    rw [show (z.sizes.all fun x => decide (1 ≤ x) && decide (x ≤ 4)) = sizesOk z from rfl]
    cases hsz : sizesOk z
    · simp [isAsy, hsz]
    · have hz : SzOk z := ⟨hp4, fun x hx => by
        unfold sizesOk at hsz
        rw [List.all_eq_true] at hsz
        have := hsz x hx
        simpa using this⟩
      simp
      refine ⟨_, isGlobal_spec _ _ _ _ hz o3, ?_⟩
      cases hs : isGlob z.sizes z.start
      · simp [isAsy, hs]
      · simp
        refine ⟨_, goodJoints_spec z hz ho hpm, ?_⟩
        cases hj : jointsOk z
        · simp [isAsy, hj]
        · have hv : isAsy z = finalOk z := by simp [isAsy, hp, hsz, hs, hj]
          simp
          refine ⟨fun hl => ?_, fun hl => ?_⟩
          · rw [hv]
            unfold finalOk
            rw [show decide (z.final.length ≤ 64) = false from by simp; omega, Bool.and_false]
          · refine awp_loop2 [1, 38, 39] [] (fun i : Nat => [(40, iv i)]) (fun _ => []) (fun i => i ≤ z.final.length ∧ ∀ j, j < i → fOk z j = true) (fun i => z.final.length - i) 0 (weak_mk some (by simp) (by simp) rfl) (by simp) ?_
            rintro i ⟨hi, hall⟩
            by_cases hlt : i < z.final.length
            · have hf := o7 _ (nthR_mem hlt)
              have bad : fOk z i = false → isAsy z = false := fun hb => by
                rw [hv]
                unfold finalOk
                rw [show (List.range z.final.length).all (fOk z) = false from List.all_eq_false.2 ⟨i, by simpa using hlt, by simp [hb]⟩]; rfl
              have done : fOk z i = true → ∀ j, j < i + 1 → fOk z j = true := fun hb j hj2 => by
                by_cases e : j = i
                · subst e; exact hb
                · exact hall j (by omega)
              simp [hlt]
              refine ⟨_, isGlobal_spec _ true _ _ hz hf.1, ?_⟩
              cases hg : isGlob z.sizes (nthR z.final i)
              · rw [bad (by unfold fOk; simp [hg])]
                simp
              · by_cases h0 : i = 0
                · simp [h0]
                  refine Round.mk (i + 1) (weak_mk some (by simp [h0]; decide) (by simp) rfl) ⟨hlt, done (by unfold fOk; rw [hg, h0]; simp)⟩ (by omega)
                · obtain ⟨k, hk⟩ : ∃ k, i = k + 1 := ⟨i - 1, by omega⟩
                  have hwi : IntKind.i64.wrap ((i : Int) - 1) = (k : Int) := by rw [wrap_id _ (by omega) (by omega)]; omega
                  have hkl : k < z.final.length := by omega
                  have hfk := o7 _ (nthR_mem hkl)
                  have hfv : fOk z i = decide (lexC (nthR z.final k) (nthR z.final i) < 0) := by
                    unfold fOk
                    rw [show i - 1 = k by omega, hg]
                    simp [h0]
                  simp [show 0 < i by omega, h0, hwi, hkl, hlt]
                  refine ⟨_, slCompare_spec _ _ _ _ hfk.1 hf.1, ?_⟩
                  simp
                  refine ⟨fun hb => bad (by rw [hfv]; simp; omega), fun hb => ?_⟩
                  rw [wrap_id _ (by omega) (by omega)]
                  exact Round.mk (i + 1) (weak_mk some (by simp) (by simp) rfl) ⟨hlt, done (by rw [hfv]; simpa using hb)⟩ (by omega)
            · obtain rfl : i = z.final.length := by omega
              have : (List.range z.final.length).all (fOk z) = true := by simpa using hall
              rw [hv]
              simp [finalOk, this]
              omega
theorem half_wrap (i j : Nat) (h : i + j ≤ 4194304) : IntKind.i64.wrap ((IntKind.u64.wrap (IntKind.i64.wrap ((i : Int) + j))).fdiv 2) = (((i + j) / 2 : Nat) : Int) := by
  rw [wrap_id ((i : Int) + j) (by omega) (by omega), wrap_u64', show ((i : Int) + j) % 18446744073709551616 = ((i + j : Nat) : Int) by omega]
  have e : (((i + j : Nat) : Int)).fdiv 2 = (((i + j) / 2 : Nat) : Int) := by rw [Int.fdiv_eq_ediv_of_nonneg _ (by omega)]; omega
  rw [e, wrap_id _ (by omega) (by omega)]
theorem BSrows_spec (b : Bool) (rs : List (List Int)) (hl : rs.length ≤ 1048576) (h : ∀ r ∈ rs, ListOk r) (g : List Int) (hg : Fits g) (mono : ∀ i j, i < j → j < rs.length → lexC (nthR rs j) g < 0 → lexC (nthR rs i) g < 0) :
    ACalls1 Tryd.prog 137 [.sl 1 true (srows true rs), .sl 1 b (ints g), .fn 133 []]
      (.tup [iv (bsI (fun k => lexC (nthR rs k) g) rs.length), bv (decide (bsI (fun k => lexC (nthR rs k) g) rs.length < rs.length) && decide (lexC (nthR rs (bsI (fun k => lexC (nthR rs k) g) rs.length)) g = 0))]) := by
  refine walk (fun _ => false) mixed Go.Proofs.Tryd.func137 rfl rfl rfl (by kernel_rfl) rfl (by simp) (by kernel_rfl) ?_
  simp
  refine awp_loop2 [0, 1, 2, 8] [] (fun s : Nat × Nat => [(9, iv s.1), (10, iv s.2)]) (fun _ => []) (fun s => s.1 ≤ s.2 ∧ s.2 ≤ rs.length ∧ (∀ k, k < s.1 → lexC (nthR rs k) g < 0) ∧ ∀ k, s.2 ≤ k → k < rs.length → ¬ lexC (nthR rs k) g < 0) (fun s => s.2 - s.1) (0, rs.length) (weak_mk some (by simp) (by simp) rfl) (by simp; omega) ?_
  rintro ⟨i, j⟩ ⟨hij, hj, hlo, hhi⟩
  simp only at hij hj hlo hhi
  by_cases hlt : i < j
  · have hh := half_wrap i j (by omega)
    have hm : (i + j) / 2 < j := by omega
    have hm2 : i ≤ (i + j) / 2 := by omega
    generalize (i + j) / 2 = m at *
    have hml : m < rs.length := by omega
    simp [hlt, hh, hml]
    refine ⟨_, slCompare_spec _ _ _ _ (h _ (nthR_mem hml)).1 hg, ?_⟩
    by_cases hc : lexC (nthR rs m) g < 0
    · simp [hc]
      rw [wrap_id _ (by omega) (by omega)]
      refine Round.mk (m + 1, j) (weak_mk some (by simp) (by simp) rfl) ⟨by simp only; omega, hj, fun k hk => ?_, fun k h1 h2 => Int.not_lt.1 (hhi k h1 h2)⟩ (by simp only; omega)
      by_cases e : k = m
      · subst e; exact hc
      · exact mono k m (by simp only at hk; omega) hml hc
    · simp [hc]
      refine Round.mk (i, m) (weak_mk some (by simp) (by simp) rfl) ⟨hm2, by simp only; omega, hlo, fun k hk hk2 => Int.not_lt.1 fun hk3 => ?_⟩ (by simp only; omega)
      by_cases e : k = m
      · subst e; exact hc hk3
      · exact hc (mono m k (by simp only at hk; omega) hk2 hk3)
  · obtain rfl : i = j := by omega
    have hb := bsI_of (c := fun k => lexC (nthR rs k) g) hj hlo hhi
    rw [hb]
    by_cases hi : i < rs.length
    · simp [hi]
      refine ⟨_, slCompare_spec _ _ _ _ (h _ (nthR_mem hi)).1 hg, ?_⟩
      simp
      try rfl
    · simp [hi]
theorem BSjoints_spec (b : Bool) (js : List J3) (hl : js.length ≤ 1048576) (h : ∀ j ∈ js, (0 ≤ j.1 ∧ j.1 ≤ 1099511627776) ∧ Fits j.2.1) (a : Int) (ha : 0 ≤ a ∧ a ≤ 1099511627776) (g : List Int) (hg : Fits g) (mono : ∀ i j, i < j → j < js.length → cmpJ (nthJ js j) (a, g, []) < 0 → cmpJ (nthJ js i) (a, g, []) < 0) :
    ACalls1 Tryd.prog 135 [.sl 3 true (jcl js), .agg [iv a, .sl 1 b (ints g), .val (.slice none 0 0)], .fn 136 []]
      (.tup [iv (bsI (fun k => cmpJ (nthJ js k) (a, g, [])) js.length), bv (decide (bsI (fun k => cmpJ (nthJ js k) (a, g, [])) js.length < js.length) && decide (cmpJ (nthJ js (bsI (fun k => cmpJ (nthJ js k) (a, g, [])) js.length)) (a, g, []) = 0))]) := by
  refine walk (fun t => t == 4) mixed Go.Proofs.Tryd.func135 rfl rfl rfl (by kernel_rfl) rfl (by simp) (by kernel_rfl) ?_
  simp
  refine awp_loop2 [0, 2, 4, 8] [] (fun s : Nat × Nat => [(9, iv s.1), (10, iv s.2)]) (fun _ => []) (fun s => s.1 ≤ s.2 ∧ s.2 ≤ js.length ∧ (∀ k, k < s.1 → cmpJ (nthJ js k) (a, g, []) < 0) ∧ ∀ k, s.2 ≤ k → k < js.length → ¬ cmpJ (nthJ js k) (a, g, []) < 0) (fun s => s.2 - s.1) (0, js.length) (weak_mk some (by simp) (by simp) rfl) (by simp; omega) ?_
  rintro ⟨i, j⟩ ⟨hij, hj, hlo, hhi⟩
  simp only at hij hj hlo hhi
  by_cases hlt : i < j
  · have hh := half_wrap i j (by omega)
    have hm : (i + j) / 2 < j := by omega
    have hm2 : i ≤ (i + j) / 2 := by omega
    generalize (i + j) / 2 = m at *
    have hml : m < js.length := by omega
    have hj1 := h _ (nthJ_mem hml)
    simp [hlt, hh, hml]
    refine ⟨_, compareJoints_spec (nthJ js m) a b g _ (.inl rfl) hj1.1 ha hj1.2 hg, ?_⟩
    by_cases hc : cmpJ (nthJ js m) (a, g, []) < 0
    · simp [hc]
      rw [wrap_id _ (by omega) (by omega)]
      refine Round.mk (m + 1, j) (weak_mk some (by simp) (by simp) rfl) ⟨by simp only; omega, hj, fun k hk => ?_, fun k h1 h2 => Int.not_lt.1 (hhi k h1 h2)⟩ (by simp only; omega)
      by_cases e : k = m
      · subst e; exact hc
      · exact mono k m (by simp only at hk; omega) hml hc
    · simp [hc]
      refine Round.mk (i, m) (weak_mk some (by simp) (by simp) rfl) ⟨hm2, by simp only; omega, hlo, fun k hk hk2 => Int.not_lt.1 fun hk3 => ?_⟩ (by simp only; omega)
      by_cases e : k = m
      · subst e; exact hc hk3
      · exact hc (mono m k (by simp only at hk; omega) hk2 hk3)
  · obtain rfl : i = j := by omega
    have hb := bsI_of (c := fun k => cmpJ (nthJ js k) (a, g, [])) hj hlo hhi
    rw [hb]
    by_cases hi : i < js.length
    · have hj1 := h _ (nthJ_mem hi)
      simp [hi]
      refine ⟨_, compareJoints_spec (nthJ js i) a b g _ (.inl rfl) hj1.1 ha hj1.2 hg, ?_⟩
      simp
      try rfl
    · simp [hi]
theorem isFinal_spec (z : AsyV) (hz : isAsy z = true) (ho : AsyOk z) (b : Bool) (g : List Int) (hg : Fits g) : ACalls1 Tryd.prog 62 [asySl z, .sl 1 b (ints g)] (bv (decide (g ∈ z.final))) := by
  have hf := isAsy_facts hz
  rw [← final_of hf.2.2.2.2.1 g]
  refine walk (fun t => t == 2) mixed Go.Proofs.Tryd.func62 rfl rfl rfl (by kernel_rfl) rfl (by simp) (by kernel_rfl) ?_
  simp
  refine ⟨_, BSrows_spec b z.final ho.2.2.2.2.1 ho.2.2.2.2.2 g hg (fun i j h1 h2 h3 => lexC_trans (final_lt hf.2.2.2.2.1 h1 h2) (by omega)), ?_⟩
  simp
theorem move_spec (z : AsyV) (hz : isAsy z = true) (ho : AsyOk z) (b : Bool) (g : List Int) (hg : g.length = z.sizes.length) (a : Nat) (ha : a < z.places.length) :
    ACalls1 Tryd.prog 59 [asySl z, .sl 1 b (ints g), iv a] (.tup [.own 1 false (ints ((stepV z g a).getD [])), bv (stepV z g a).isSome]) := by
  obtain ⟨⟨f1, f2⟩, f3, f4, f5, f6, f7⟩ := isAsy_facts hz
  obtain ⟨⟨o1, _⟩, ⟨o2, o2'⟩, ⟨o3, _⟩, ⟨o4, o5⟩, o6, o7⟩ := ho
  have hM := (f3 a ha).1
  have hT := (f3 a ha).2
  refine walk (fun t => t == 3 || t == 3020) mixed Go.Proofs.Tryd.func59 rfl rfl rfl (by kernel_rfl) rfl (by simp) (by kernel_rfl) ?_
  simp [ha]
  refine ⟨_, locals_spec b g _ hM (by omega) (by rw [hg]; exact hT), ?_⟩
  rw [show pick g (nth z.places a) g.length = ownP z g a from rfl]
  have hown : (ownP z g a).length ≤ 4 := by have := pick_length g (nth z.places a) g.length; unfold ownP; omega
  simp
  have hjs : ∀ j ∈ z.joints, (0 ≤ j.1 ∧ j.1 ≤ 1099511627776) ∧ Fits j.2.1 := fun j hj => by
    obtain ⟨i, hi, rfl⟩ := List.mem_iff_getElem.1 hj
    obtain ⟨a', h1, h2, _⟩ := joint_facts f5 hi
    rw [nthJ_at hi] at h1
    exact ⟨by omega, (o5 _ hj).2.1.1⟩
  refine ⟨_, BSjoints_spec true z.joints o4 hjs a (by omega) (ownP z g a) (by unfold Fits; omega) (fun i j h1 h2 h3 => cmpJ_trans (joints_lt f5 h1 h2) (by omega)), ?_⟩
  have hI := stepI_of f5 g a
  simp only at hI
  generalize bsI (fun k => cmpJ (nthJ z.joints k) (↑a, ownP z g a, [])) z.joints.length = i at *
  by_cases hc : i < z.joints.length ∧ cmpJ (nthJ z.joints i) (↑a, ownP z g a, []) = 0
  · rw [if_pos hc] at hI
    have hV : stepV z g a = some (stepTo z g a i) := by unfold stepV; rw [hI]; rfl
    obtain ⟨a', ha1, ha2, ha3, ha4⟩ := joint_facts f5 hc.1
    obtain rfl : a' = a := by have := (cmpJ_zero.1 hc.2).1; simp only at this; omega
    have hto := (o5 _ (nthJ_mem hc.1)).2.2.1
    unfold Fits at hto
    rw [hV]
    simp [hc.1, hc.2]
    refine ⟨_, Clone_spec b g (by unfold Fits; omega), ?_⟩
    simp [ha]
    refine ⟨_, members_spec _ hM, ?_⟩
    have hbl := bits_len (m := nth z.places a') (n := z.sizes.length) (by omega) hT
    have hmem := fun i (hi : i ∈ bitsOf (nth z.places a')) => bitsOf_mem hi
    have hst : stepTo z g a' i = putL g (bitsOf (nth z.places a')) (nthJ z.joints i).2.2 (bitsOf (nth z.places a')).length := by unfold stepTo; rw [hbl, hg]
    rw [hst]
    rw [← hbl] at ha4
    generalize bitsOf (nth z.places a') = bs at *
    simp
    refine awp_loop2 [3, 9, 11, 39, 40] [39] (fun k : Nat => [(41, iv k)]) (fun k => [(33, .own 1 false (ints (putL g bs (nthJ z.joints i).2.2 k)))]) (fun k => k ≤ bs.length) (fun k => bs.length - k) 0 (weak_mk some (by simp) (by simp [putL]) rfl) (by simp) ?_
    intro k hk
    by_cases hlt : k < bs.length
    · obtain ⟨p, hp, hp63, hpt⟩ := hmem _ (nth_mem hlt)
      have hpl : p < g.length := by
        apply Nat.lt_of_not_le
        intro hle
        rw [hT p (by omega)] at hpt; cases hpt
      have hk4 : k < (nthJ z.joints i).2.2.length := by omega
      simp [hlt, hp, hpl, hk4, hc.1, show k + 1 ≤ bs.length from hlt]
      refine ⟨by omega, ?_⟩
      rw [ints_put _ _ _ (by simpa using hpl), wrap_id _ (by omega) (by omega)]
      exact Round.mk (k + 1) (weak_mk some (by simp) (by simp [putL, hp]) rfl) hlt (by omega)
    · obtain rfl : k = bs.length := by omega
      simp
  · rw [if_neg hc] at hI
    have hV : stepV z g a = none := by unfold stepV; rw [hI]; rfl
    have hd : (decide (i < z.joints.length) && decide (cmpJ (nthJ z.joints i) (↑a, ownP z g a, []) = 0)) = false := by
      rw [Bool.eq_false_iff]; intro h; exact hc (by simpa using h)
    rw [hV, hd]
    simp
/-- The states that a word leads through. -/
def sts (z : AsyV) (g w : List Int) (k : Nat) : List (List Int) := (List.range (k + 1)).map fun i => (runV z g (w.take i)).getD []
@[simp] theorem sts_length (z : AsyV) (g w : List Int) (k : Nat) : (sts z g w k).length = k + 1 := by simp [sts]
theorem sts_succ (z : AsyV) (g w : List Int) (k : Nat) : sts z g w (k + 1) = sts z g w k ++ [(runV z g (w.take (k + 1))).getD []] := by unfold sts; rw [List.range_succ (n := k + 1), List.map_append]; rfl
theorem sts_zero (z : AsyV) (g w : List Int) : sts z g w 0 = [g] := by simp [sts, runV]
theorem sts_at (z : AsyV) (g w : List Int) (k i : Nat) (h : i ≤ k) : nthR (sts z g w k) i = (runV z g (w.take i)).getD [] := by
  rw [nthR_at (by simp; omega)]; simp [sts]
theorem jointsIn_of {l : List JIn} (h : l.length ≤ maxLen ∧ ∀ y ∈ l, ((Lit.int .i64 y.1).wf = true ∧ (y.2.1.2.length ≤ maxLen ∧ ∀ x ∈ y.2.1.2, (Lit.int .i64 x).wf = true) ∧ (y.2.2.1.2.length ≤ maxLen ∧ ∀ x ∈ y.2.2.1.2, (Lit.int .i64 x).wf = true) ∧ True)) : JointsIn l :=
  ⟨h.1, fun y hy => ⟨i64_of_wf (h.2 y hy).1, (h.2 y hy).2.1, (h.2 y hy).2.2.1⟩⟩
/-- The local states of a process after the first letters. -/
def lpU (z : AsyV) (w : List Int) (p : Nat) : Nat → List Int
  | 0 => [nth z.start p]
  | k + 1 => if tb (nth z.places (nth w k).toNat) p then lpU z w p k ++ [nth ((runV z z.start (w.take (k + 1))).getD []) p] else lpU z w p k
theorem lpU_len (z : AsyV) (w : List Int) (p k : Nat) : (lpU z w p k).length ≤ k + 1 := by
  induction k with
  | zero => simp [lpU]
  | succ k ih =>
    unfold lpU
    split
    · simp; omega
    · omega
def localPathV (z : AsyV) (w : List Int) (p : Int) : List Int × Int :=
  if isAsy z then (if overW z.places.length w && (decide (0 ≤ p) && decide (p ≤ (z.sizes.length : Int) - 1)) then (if (runV z z.start w).isSome then (lpU z w p.toNat w.length, 0) else ([], 4)) else ([], 2)) else ([], 1)
theorem lp0 {z : AsyV} {w : List Int} {p : Int} (hz : isAsy z = false) : localPathV z w p = ([], 1) := by simp [localPathV, hz]
theorem lp1 {z : AsyV} {w : List Int} {p : Int} (hz : isAsy z = true) (hb : (overW z.places.length w && (decide (0 ≤ p) && decide (p ≤ (z.sizes.length : Int) - 1))) = false) : localPathV z w p = ([], 2) := by simp only [localPathV, hz, hb]; rfl
theorem lp2 {z : AsyV} {w : List Int} {p : Int} (hz : isAsy z = true) (hb : (overW z.places.length w && (decide (0 ≤ p) && decide (p ≤ (z.sizes.length : Int) - 1))) = true) (hr : runV z z.start w = none) : localPathV z w p = ([], 4) := by simp only [localPathV, hz, hb, hr]; rfl
theorem lp3 {z : AsyV} {w : List Int} {p : Int} {g : List Int} (hz : isAsy z = true) (hb : (overW z.places.length w && (decide (0 ≤ p) && decide (p ≤ (z.sizes.length : Int) - 1))) = true) (hr : runV z z.start w = some g) : localPathV z w p = (lpU z w p.toNat w.length, 0) := by simp only [localPathV, hz, hb, hr]; rfl
def AllI (l : List Int) : Prop := ∀ x ∈ l, I64 x
theorem AllI.nth {l : List Int} (h : AllI l) (i : Nat) : I64 (nth l i) := by
  by_cases hi : i < l.length
  · exact h _ (nth_mem hi)
  · unfold Go.AM.nth
    rw [List.getD_eq_getElem?_getD, List.getElem?_eq_none (by omega)]
    unfold I64
    simp
theorem putL_all {g bs to : List Int} (h1 : AllI g) (h2 : AllI to) : ∀ k, AllI (putL g bs to k)
  | 0 => h1
  | k + 1 => by
    intro x hx
    unfold putL at hx
    rcases List.mem_or_eq_of_mem_set hx with hx | rfl
    · exact putL_all h1 h2 k x hx
    · exact h2.nth k
theorem stepV_all {z : AsyV} (ho : AsyOk z) {g g' : List Int} {a : Nat} (h : AllI g) (hs : stepV z g a = some g') : AllI g' := by
  unfold stepV at hs
  cases hi : stepI z g a with
  | none => rw [hi] at hs; simp at hs
  | some i =>
    rw [hi] at hs
    simp only [Option.map_some, Option.some.injEq] at hs
    rw [← hs]
    unfold stepTo
    refine putL_all h ?_ _
    unfold stepI at hi
    have hm := List.mem_of_find?_eq_some hi
    rw [List.mem_range] at hm
    exact (ho.2.2.2.1.2 _ (nthJ_mem hm)).2.2.2
theorem runV_all {z : AsyV} (ho : AsyOk z) : ∀ {w g g' : List Int}, AllI g → runV z g w = some g' → AllI g'
  | [], g, g', h, hr => by simp [runV] at hr; rw [← hr]; exact h
  | a :: w, g, g', h, hr => by
    simp only [runV] at hr
    cases hs : stepV z g a.toNat with
    | none => rw [hs] at hr; simp at hr
    | some g1 => rw [hs] at hr; exact runV_all ho (stepV_all ho h hs) hr
theorem lpU_all {z : AsyV} (ho : AsyOk z) {w : List Int} {p : Nat} : ∀ k, AllI (lpU z w p k)
  | 0 => by
    intro x hx
    simp only [lpU, List.mem_singleton] at hx
    subst hx
    exact AllI.nth (l := z.start) ho.2.2.1.2 p
  | k + 1 => by
    unfold lpU
    split
    · intro x hx
      rcases List.mem_append.1 hx with hx | hx
      · exact lpU_all ho k x hx
      · simp only [List.mem_singleton] at hx
        subst hx
        cases hr : runV z z.start (w.take (k + 1)) with
        | none => simp only [Option.getD_none]; exact AllI.nth (l := []) (by intro x hx; cases hx) p
        | some g => exact AllI.nth (l := g) (runV_all ho ho.2.2.1.2 hr) p
    · exact lpU_all ho k
theorem LocalPath_fits (z : AsyV) (ho : AsyOk z) (w : List Int) (hw : ListOk w) (p : Int) (hp : I64 p) : ListOk (localPathV z w p).1 := by
  have hn : ListOk ([] : List Int) := ⟨by simp [Fits], by intro x hx; cases hx⟩
  unfold localPathV
  split
  · split
    · split
      · rename_i h1 h2 h3
        have h24 := (overW_facts (by rw [Bool.and_eq_true] at h2; exact h2.1)).1
        have := lpU_len z w p.toNat w.length
        exact ⟨by simp only [Fits]; omega, lpU_all ho _⟩
      · exact hn
    · exact hn
  · exact hn
end Go.AM
