/-
  Several texts in one: FnAs FnSr FnGq.
-/
import Derived.Test.YtnimmbjbinpajaaDoorFnMgA
import Derived.Test.YtnimmbjbinpajaaDoorFnR
set_option linter.unusedVariables false
set_option linter.unusedSimpArgs false
set_option linter.unusedSectionVars false
set_option maxRecDepth 100000
set_option maxHeartbeats 1600000
namespace Go.AM
open Go.Proofs
def lexC : List Int → List Int → Int
  | [], [] => 0
  | [], _ :: _ => -1
  | _ :: _, [] => 1
  | a :: l, b :: m => if a < b then -1 else if b < a then 1 else lexC l m
theorem lexC_rng : ∀ l m, lexC l m = -1 ∨ lexC l m = 0 ∨ lexC l m = 1
  | [], [] => by simp [lexC]
  | [], _ :: _ => by simp [lexC]
  | _ :: _, [] => by simp [lexC]
  | a :: l, b :: m => by
    have := lexC_rng l m
    unfold lexC
    split
    · simp
    · split
      · simp
      · exact this
theorem lexC_self : ∀ l, lexC l l = 0
  | [] => rfl
  | a :: l => by unfold lexC; rw [if_neg (by omega), if_neg (by omega)]; exact lexC_self l
theorem lexC_zero : ∀ {l m}, lexC l m = 0 → l = m
  | [], [], _ => rfl
  | [], _ :: _, h => by simp [lexC] at h
  | _ :: _, [], h => by simp [lexC] at h
  | a :: l, b :: m, h => by
    unfold lexC at h
    split at h
    · simp at h
    · split at h
      · simp at h
      · rw [lexC_zero h, show a = b by omega]
theorem lexC_trans : ∀ {l m k}, lexC l m < 0 → lexC m k ≤ 0 → lexC l k < 0
  | [], [], _, h, _ => by simp [lexC] at h
  | [], _ :: _, [], _, h => by simp [lexC] at h
  | [], _ :: _, _ :: _, _, _ => by simp [lexC]
  | _ :: _, [], _, h, _ => by simp [lexC] at h
  | _ :: _, _ :: _, [], _, h => by simp [lexC] at h
  | a :: l, b :: m, c :: k, h1, h2 => by
    unfold lexC at h1 h2 ⊢
    by_cases e1 : a < b
    · by_cases e2 : b < c
      · rw [if_pos (by omega)]; omega
      · rw [if_neg e2] at h2
        by_cases e3 : c < b
        · rw [if_pos e3] at h2; omega
        · rw [if_pos (by omega)]; omega
    · rw [if_neg e1] at h1
      by_cases e4 : b < a
      · rw [if_pos e4] at h1; omega
      · rw [if_neg e4] at h1
        by_cases e2 : b < c
        · rw [if_pos (by omega)]; omega
        · rw [if_neg e2] at h2
          by_cases e3 : c < b
          · rw [if_pos e3] at h2; omega
          · rw [if_neg e3] at h2
            rw [if_neg (by omega), if_neg (by omega)]
            exact lexC_trans h1 h2
/-- At a place where the heads are the same. -/
theorem lexC_drop {l m : List Int} {i : Nat} (hl : i < l.length) (hm : i < m.length) : lexC (l.drop i) (m.drop i) = if nth l i < nth m i then -1 else if nth m i < nth l i then 1 else lexC (l.drop (i + 1)) (m.drop (i + 1)) := by
  rw [List.drop_eq_getElem_cons hl, List.drop_eq_getElem_cons hm, nth_at hl, nth_at hm]; rfl
theorem lexC_endl {l m : List Int} {i : Nat} (hl : l.length ≤ i) : lexC (l.drop i) (m.drop i) = if i < m.length then -1 else 0 := by
  rw [List.drop_eq_nil_of_le hl]
  split
  · rename_i h; rw [List.drop_eq_getElem_cons h]; rfl
  · rename_i h; rw [List.drop_eq_nil_of_le (by omega)]; rfl
theorem lexC_endr {l m : List Int} {i : Nat} (hl : i < l.length) (hm : m.length ≤ i) : lexC (l.drop i) (m.drop i) = 1 := by
  rw [List.drop_eq_getElem_cons hl, List.drop_eq_nil_of_le hm]; rfl
/-- The first place from `i` on that is not below. -/
def bsI (c : Nat → Int) (n : Nat) : Nat := ((List.range n).filter fun h => decide (c h < 0)).length
theorem bsI_of {c : Nat → Int} {i : Nat} : ∀ {n : Nat}, i ≤ n → (∀ h, h < i → c h < 0) → (∀ h, i ≤ h → h < n → ¬ c h < 0) → bsI c n = i
  | 0, h1, _, _ => by simp [bsI]; omega
  | n + 1, h1, h2, h3 => by
    unfold bsI
    rw [List.range_succ, List.filter_append, List.length_append]
    by_cases e : i = n + 1
    · have ih := bsI_of (c := c) (i := n) (n := n) (Nat.le_refl _) (fun h hh => h2 h (by omega)) (fun h a b => by omega)
      unfold bsI at ih
      rw [ih]
      simp [h2 n (by omega)]; omega
    · have ih := bsI_of (c := c) (i := i) (n := n) (by omega) h2 (fun h a b => h3 h a (by omega))
      unfold bsI at ih
      rw [ih]
      have := h3 n (by omega) (by omega)
      simp [this]
/-- A total order of rows, told by a comparison. -/
structure TotC (c : List Int → List Int → Int) : Prop where
  self : ∀ a, c a a = 0
  zero : ∀ a b, c a b = 0 → a = b
  trans : ∀ a b d, c a b ≤ 0 → c b d ≤ 0 → c a d ≤ 0
  total : ∀ a b, c a b ≤ 0 ∨ c b a < 0
  anti : ∀ a b, c a b < 0 → ¬ c b a < 0
theorem TotC.asym {c : List Int → List Int → Int} (h : TotC c) {a b : List Int} (h1 : c a b ≤ 0) (h2 : c b a ≤ 0) : a = b := by
  by_cases e : c a b = 0
  · exact h.zero a b e
  · by_cases e2 : c b a = 0
    · exact (h.zero b a e2).symm
    · exact absurd (show c b a < 0 by omega) (h.anti a b (by omega))
theorem TotC.not_le {c : List Int → List Int → Int} (h : TotC c) {a b : List Int} : ¬ c a b ≤ 0 ↔ c b a < 0 := by
  constructor
  · intro h1
    rcases h.total a b with h2 | h2
    · exact absurd h2 h1
    · exact h2
  · intro h1 h2
    by_cases e : c a b = 0
    · rw [h.zero a b e, h.self] at h1; omega
    · exact h.anti a b (by omega) h1
theorem lexC_flip : ∀ l m, lexC m l = - lexC l m
  | [], [] => by simp [lexC]
  | [], _ :: _ => by simp [lexC]
  | _ :: _, [] => by simp [lexC]
  | a :: l, b :: m => by
    have := lexC_flip l m
    unfold lexC
    split <;> split <;> first | omega | (split <;> omega)
theorem lexC_tot : TotC lexC where
  self := lexC_self
  zero _ _ h := lexC_zero h
  trans a b d h1 h2 := by
    by_cases e : lexC a b = 0
    · rw [lexC_zero e]; exact h2
    · have := lexC_trans (l := a) (m := b) (k := d) (by omega) h2; omega
  total a b := by have := lexC_flip a b; omega
  anti a b h := by have := lexC_flip a b; omega
/-- Shorter rows first. -/
def cmpW (u v : List Int) : Int := if u.length ≠ v.length then (u.length : Int) - v.length else lexC u v
theorem cmpW_tot : TotC cmpW where
  self a := by simp [cmpW, lexC_self]
  zero a b h := by
    unfold cmpW at h
    split at h
    · omega
    · exact lexC_zero h
  trans a b d h1 h2 := by
    unfold cmpW at *
    by_cases e1 : a.length = b.length <;> by_cases e2 : b.length = d.length
    · rw [if_neg (by omega)] at h1 h2 ⊢
      exact lexC_tot.trans a b d h1 h2
    · rw [if_pos e2] at h2; rw [if_pos (by omega)]; omega
    · rw [if_pos e1] at h1; rw [if_pos (by omega)]; omega
    · rw [if_pos e1] at h1; rw [if_pos e2] at h2; rw [if_pos (by omega)]; omega
  total a b := by
    unfold cmpW
    by_cases e : a.length = b.length
    · rw [if_neg (by omega), if_neg (by omega)]; exact lexC_tot.total a b
    · rw [if_pos e, if_pos (by omega)]; omega
  anti a b h := by
    unfold cmpW at *
    by_cases e : a.length = b.length
    · rw [if_neg (by omega)] at h ⊢; exact lexC_tot.anti a b h
    · rw [if_pos e] at h; rw [if_pos (by omega)]; omega
def sortR (c : List Int → List Int → Int) (l : List (List Int)) : List (List Int) := l.mergeSort fun x y => decide (c x y ≤ 0)
theorem sortR_perm (c : List Int → List Int → Int) (l : List (List Int)) : (sortR c l).Perm l := List.mergeSort_perm l _
theorem sortR_sorted {c : List Int → List Int → Int} (h : TotC c) (l : List (List Int)) : (sortR c l).Pairwise fun x y => c x y ≤ 0 := by
  have := List.pairwise_mergeSort (le := fun x y => decide (c x y ≤ 0)) (fun a b d h1 h2 => by simp at *; exact h.trans a b d h1 h2) (fun a b => by
    have := h.total a b
    simp only [Bool.or_eq_true, decide_eq_true_eq]; omega) l
  exact this.imp fun h => by simpa using h
theorem sortR_eq {c : List Int → List Int → Int} (h : TotC c) {l m : List (List Int)} (hp : l.Perm m) (hm : m.Pairwise fun x y => c x y ≤ 0) : sortR c l = m :=
  List.Perm.eq_of_pairwise (le := fun x y => c x y ≤ 0) (fun a b _ _ h1 h2 => h.asym h1 h2) (sortR_sorted h l) hm ((sortR_perm c l).trans hp)
@[simp] theorem sortR_length (c : List Int → List Int → Int) (l : List (List Int)) : (sortR c l).length = l.length := (sortR_perm c l).length_eq
theorem sortR_mem {c : List Int → List Int → Int} {l : List (List Int)} {y : List Int} : y ∈ sortR c l ↔ y ∈ l := (sortR_perm c l).mem_iff
theorem sortR_nil (c : List Int → List Int → Int) : sortR c [] = [] := by simp [sortR]
/-- One more row, in its place. -/
def insR (c : List Int → List Int → Int) (n : List Int) : List (List Int) → List (List Int)
  | [] => [n]
  | y :: l => if c y n < 0 then y :: insR c n l else n :: y :: l
theorem insR_perm (c : List Int → List Int → Int) (n : List Int) : ∀ l, (insR c n l).Perm (n :: l)
  | [] => .refl _
  | y :: l => by
    unfold insR; split
    · exact ((insR_perm c n l).cons y).trans (.swap n y l)
    · exact .refl _
theorem insR_sorted {c : List Int → List Int → Int} (h : TotC c) {n : List Int} : ∀ {l : List (List Int)}, l.Pairwise (fun x y => c x y ≤ 0) → (insR c n l).Pairwise fun x y => c x y ≤ 0
  | [], _ => by simp [insR]
  | y :: l, hl => by
    rw [List.pairwise_cons] at hl
    unfold insR; split
    · rename_i hlt
      rw [List.pairwise_cons]
      refine ⟨fun a ha => ?_, insR_sorted h hl.2⟩
      have := (insR_perm c n l).mem_iff.1 ha
      rcases List.mem_cons.1 this with rfl | ha
      · omega
      · exact hl.1 a ha
    · rename_i hlt
      have hny : c n y ≤ 0 := by
        rcases h.total n y with h2 | h2
        · exact h2
        · exact absurd h2 hlt
      rw [List.pairwise_cons, List.pairwise_cons]
      refine ⟨fun a ha => ?_, hl⟩
      rcases List.mem_cons.1 ha with rfl | ha
      · exact hny
      · exact h.trans n y a hny (hl.1 a ha)
theorem sortR_snoc {c : List Int → List Int → Int} (h : TotC c) (l : List (List Int)) (n : List Int) : insR c n (sortR c l) = sortR c (l ++ [n]) := by
  refine (sortR_eq h ?_ (insR_sorted h (sortR_sorted h l))).symm
  refine .trans ?_ (insR_perm c n (sortR c l)).symm
  exact (List.perm_append_comm (l₁ := l) (l₂ := [n])).trans ((sortR_perm c l).symm.cons n)
/-- How many stand ahead of a row. -/
def insRAt (c : List Int → List Int → Int) (n : List Int) : List (List Int) → Nat
  | [] => 0
  | y :: l => if c y n < 0 then insRAt c n l + 1 else 0
theorem insRAt_le (c : List Int → List Int → Int) (n : List Int) : ∀ l, insRAt c n l ≤ l.length
  | [] => Nat.le_refl _
  | y :: l => by
    unfold insRAt; split
    · have := insRAt_le c n l; simp; exact this
    · simp
theorem insRAt_before {c : List Int → List Int → Int} {n : List Int} : ∀ {l : List (List Int)} {i : Nat}, i < insRAt c n l → c (nthR l i) n < 0
  | [], i, h => by simp [insRAt] at h
  | y :: l, i, h => by
    unfold insRAt at h
    split at h
    · cases i with
      | zero => simpa [nthR]
      | succ i => have := insRAt_before (c := c) (n := n) (l := l) (i := i) (by omega); simpa [nthR] using this
    · omega
theorem insRAt_at {c : List Int → List Int → Int} {n : List Int} : ∀ {l : List (List Int)}, insRAt c n l < l.length → ¬ c (nthR l (insRAt c n l)) n < 0
  | [], h => by simp at h
  | y :: l, h => by
    unfold insRAt at h ⊢
    split
    · rename_i hlt
      rw [if_pos hlt] at h
      have := insRAt_at (l := l) (by simpa using h)
      simpa [nthR] using this
    · rename_i hlt
      simpa [nthR] using hlt
theorem insRAt_eq {c : List Int → List Int → Int} {n : List Int} {l : List (List Int)} {k : Nat} (hk : k ≤ l.length) (h1 : ∀ i, i < k → c (nthR l i) n < 0) (h2 : k < l.length → ¬ c (nthR l k) n < 0) : k = insRAt c n l := by
  have h3 := insRAt_le c n l
  rcases Nat.lt_trichotomy k (insRAt c n l) with h | h | h
  · exact absurd (insRAt_before h) (h2 (by omega))
  · exact h
  · exact absurd (h1 _ h) (insRAt_at (by omega))
theorem insR_eq (c : List Int → List Int → Int) (n : List Int) : ∀ l, insR c n l = l.take (insRAt c n l) ++ n :: l.drop (insRAt c n l)
  | [] => rfl
  | y :: l => by
    unfold insR insRAt; split
    · rw [insR_eq c n l]; rfl
    · rfl
/-- Rows of one length: the order is the same. -/
theorem sortR_same {l : List (List Int)} {n : Nat} (h : ∀ r ∈ l, r.length = n) : sortR lexC l = sortR cmpW l := by
  refine sortR_eq lexC_tot (sortR_perm cmpW l).symm ?_
  have := sortR_sorted cmpW_tot l
  refine List.Pairwise.imp_of_mem (fun {a b} ha hb hab => ?_) this
  have ea := h a (sortR_mem.1 ha)
  have eb := h b (sortR_mem.1 hb)
  unfold cmpW at hab
  rw [if_neg (by omega)] at hab
  exact hab
theorem srows_drop (b : Bool) (rs : List (List Int)) (n : Nat) : (srows b rs).drop n = srows b (rs.drop n) := by simp [srows, List.map_drop]
theorem srows_take (b : Bool) (rs : List (List Int)) (n : Nat) : (srows b rs).take n = srows b (rs.take n) := by simp [srows, List.map_take]
theorem srows_append (b : Bool) (rs qs : List (List Int)) : srows b (rs ++ qs) = srows b rs ++ srows b qs := by simp [srows]
theorem l01Same_spec (a b : Bool) (l m : List Int) (hl : Fits l) (hm : Fits m) : ACalls1 Tryd.prog 161 [.sl 1 a (ints l), .sl 1 b (ints m)] (bv (decide (l = m))) := by
  unfold Fits at hl hm
  refine walk (fun _ => false) mixed Go.Proofs.Tryd.func161 rfl rfl rfl (by kernel_rfl) rfl (by simp) (by kernel_rfl) ?_
  simp
  refine ⟨fun h e => h (by rw [e]), fun he => ?_⟩
  refine awp_loop2 [0, 1] [] (fun k : Nat => [(5, iv k)]) (fun _ => []) (fun k => k ≤ l.length ∧ l.take k = m.take k) (fun k => l.length - k) 0 (weak_mk some (by simp) (by simp) rfl) (by simp) ?_
  rintro k ⟨hk, ht⟩
  by_cases hlt : k < l.length
  · have hlt2 : k < m.length := by omega
    simp [hlt, hlt2]
    refine ⟨fun hne e => hne (by rw [e]), fun hee => ?_⟩
    simp [wrap_id ((k : Int) + 1) (by omega) (by omega)]
    exact Round.mk (k + 1) (weak_mk some (by simp) (by simp) rfl) ⟨hlt, by rw [take_succ _ _ hlt, take_succ _ _ hlt2, ht]; exact congrArg _ (congrArg (fun x => [x]) hee)⟩ (by omega)
  · obtain rfl : k = l.length := by omega
    rw [List.take_length, he, List.take_length] at ht
    simp [ht]
theorem l01Less_spec (a b : Bool) (l m : List Int) (hl : Fits l) (hm : Fits m) : ACalls1 Tryd.prog 125 [.sl 1 a (ints l), .sl 1 b (ints m)] (bv (decide (lexC l m < 0))) := by
  unfold Fits at hl hm
  refine walk (fun _ => false) mixed Go.Proofs.Tryd.func125 rfl rfl rfl (by kernel_rfl) rfl (by simp) (by kernel_rfl) ?_
  simp
  refine awp_loop2 [0, 1] [] (fun k : Nat => [(5, iv k)]) (fun _ => []) (fun k => k ≤ l.length ∧ k ≤ m.length ∧ lexC l m = lexC (l.drop k) (m.drop k)) (fun k => l.length - k) 0 (weak_mk some (by simp) (by simp) rfl) (by simp) ?_
  rintro k ⟨hk, hk2, he⟩
  by_cases hlt : k < l.length
  · by_cases hlt2 : k < m.length
    · rw [lexC_drop hlt hlt2] at he
      simp [hlt, hlt2]
      refine ⟨fun hne => ?_, fun hne => ?_⟩
      · rw [he]
        by_cases h1 : nth l k < nth m k
        · simp [h1]
        · simp [h1, show nth m k < nth l k by omega]
      · simp [wrap_id ((k : Int) + 1) (by omega) (by omega)]
        exact Round.mk (k + 1) (weak_mk some (by simp) (by simp) rfl) ⟨hlt, hlt2, by rw [he, if_neg (by omega), if_neg (by omega)]⟩ (by omega)
    · simp [hlt, hlt2]
      rw [lexC_endr hlt (by omega)] at he
      rw [he]; simp; omega
  · rw [lexC_endl (by omega)] at he
    simp [hlt]
    rw [he]
    by_cases h1 : k < m.length
    · simp [h1]; omega
    · simp [h1]; omega
theorem l12Has_spec (a b : Bool) (rs : List (List Int)) (hl : rs.length ≤ 1048576) (h : ∀ r ∈ rs, ListOk r) (g : List Int) (hg : Fits g) : ACalls1 Tryd.prog 162 [.sl 1 a (srows true rs), .sl 1 b (ints g)] (bv (decide (g ∈ rs))) := by
  refine walk (fun _ => false) mixed Go.Proofs.Tryd.func162 rfl rfl rfl (by kernel_rfl) rfl (by simp) (by kernel_rfl) ?_
  simp
  refine awp_loop2 [0, 1] [] (fun k : Nat => [(5, iv k)]) (fun _ => []) (fun k => k ≤ rs.length ∧ ∀ j, j < k → nthR rs j ≠ g) (fun k => rs.length - k) 0 (weak_mk some (by simp) (by simp) rfl) (by simp) ?_
  rintro k ⟨hk, hall⟩
  by_cases hlt : k < rs.length
  · simp [hlt]
    refine ⟨_, l01Same_spec _ _ _ _ (h _ (nthR_mem hlt)).1 hg, ?_⟩
    simp
    refine ⟨fun he => ?_, fun he => ?_⟩
    · rw [← he]; simpa using nthR_mem hlt
    · simp [wrap_id ((k : Int) + 1) (by omega) (by omega)]
      refine Round.mk (k + 1) (weak_mk some (by simp) (by simp) rfl) ⟨hlt, fun j hj => ?_⟩ (by omega)
      by_cases e : j = k
      · subst e; exact he
      · exact hall j (by omega)
  · obtain rfl : k = rs.length := by omega
    simp
    intro hm
    obtain ⟨j, hj, he⟩ := List.mem_iff_getElem.1 hm
    exact hall j hj (by rw [nthR_at hj]; exact he)
theorem isNaN_spec (a : Int) : ACalls1 Tryd.prog 174 [iv a] (bv false) := by
  refine walk (fun _ => false) mixed Go.Proofs.Tryd.func174 rfl rfl rfl (by kernel_rfl) rfl (by simp) (by kernel_rfl) ?_
  simp
theorem cmpCompare_spec (a b : Int) : ACalls1 Tryd.prog 163 [iv a, iv b] (iv (if a < b then -1 else if b < a then 1 else 0)) := by
  refine walk (fun _ => false) mixed Go.Proofs.Tryd.func163 rfl rfl rfl (by kernel_rfl) rfl (by simp) (by kernel_rfl) ?_
  simp
  refine ⟨_, isNaN_spec a, ?_⟩
  simp
  refine ⟨_, isNaN_spec b, ?_⟩
  by_cases h : a < b
  · simp [h]
  · by_cases h2 : b < a
    · simp [h, h2]
    · simp [h, h2]
theorem slCompare_spec (a b : Bool) (l m : List Int) (hl : Fits l) (hm : Fits m) : ACalls1 Tryd.prog 133 [.sl 1 a (ints l), .sl 1 b (ints m)] (iv (lexC l m)) := by
  unfold Fits at hl hm
  refine walk (fun _ => false) mixed Go.Proofs.Tryd.func133 rfl rfl rfl (by kernel_rfl) rfl (by simp) (by kernel_rfl) ?_
  simp
  refine awp_loop2 [0, 1, 9, 10] [] (fun k : Nat => [(11, iv k)]) (fun _ => []) (fun k => k ≤ l.length ∧ k ≤ m.length ∧ lexC l m = lexC (l.drop k) (m.drop k)) (fun k => l.length - k) 0 (weak_mk some (by simp) (by simp) rfl) (by simp) ?_
  rintro k ⟨hk, hk2, he⟩
  by_cases hlt : k < l.length
  · by_cases hlt2 : k < m.length
    · rw [lexC_drop hlt hlt2] at he
      simp [hlt, hlt2, show ¬ m.length ≤ k by omega]
      refine ⟨_, cmpCompare_spec _ _, ?_⟩
      by_cases h1 : nth l k < nth m k
      · rw [if_pos h1] at he; simp [h1, he]
      · by_cases h2 : nth m k < nth l k
        · rw [if_neg h1, if_pos h2] at he; simp [h1, h2, he]
        · rw [if_neg h1, if_neg h2] at he
          simp [h1, h2, wrap_id ((k : Int) + 1) (by omega) (by omega)]
          exact Round.mk (k + 1) (weak_mk some (by simp) (by simp) rfl) ⟨hlt, hlt2, he⟩ (by omega)
    · simp [hlt, show m.length ≤ k by omega]
      rw [lexC_endr hlt (by omega)] at he
      exact he.symm
  · rw [lexC_endl (by omega)] at he
    simp [hlt]
    rw [he]
    by_cases h1 : k < m.length
    · simp [h1]; omega
    · simp [h1]; omega
end Go.AM
