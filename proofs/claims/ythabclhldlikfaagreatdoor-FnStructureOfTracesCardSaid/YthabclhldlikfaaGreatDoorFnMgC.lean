/-
  Several texts in one: FnSr FnGsa FnGsb.
-/
import Derived.Test.YthabclhldlikfaaGreatDoorFnMgB
import Derived.Test.YthabclhldlikfaaGreatDoorFnNd
set_option linter.unusedVariables false
set_option linter.unusedSimpArgs false
set_option linter.unusedSectionVars false
set_option maxRecDepth 100000
set_option maxHeartbeats 1600000
namespace Go.AM
open Go.Proofs
/-- A total order of rows, told by a comparison. -/
structure TotC (c : List Int → List Int → Int) : Prop where
  self : ∀ a, c a a = 0
  zero : ∀ a b, c a b = 0 → a = b
  trans : ∀ a b d, c a b ≤ 0 → c b d ≤ 0 → c a d ≤ 0
  total : ∀ a b, c a b ≤ 0 ∨ c b a < 0
  anti : ∀ a b, c a b < 0 → ¬ c b a < 0
theorem TotC.asym {c : List Int → List Int → Int} (h : TotC c) {a b : List Int} (h1 : c a b ≤ 0) (h2 : c b a ≤ 0) : a = b := by
  by_cases e : c a b = 0
  · exact h.zero a b e
  · by_cases e2 : c b a = 0
    · exact (h.zero b a e2).symm
    · exact absurd (show c b a < 0 by omega) (h.anti a b (by omega))
theorem TotC.not_le {c : List Int → List Int → Int} (h : TotC c) {a b : List Int} : ¬ c a b ≤ 0 ↔ c b a < 0 := by
  constructor
  · intro h1
    rcases h.total a b with h2 | h2
    · exact absurd h2 h1
    · exact h2
  · intro h1 h2
    by_cases e : c a b = 0
    · rw [h.zero a b e, h.self] at h1; omega
    · exact h.anti a b (by omega) h1
theorem lexC_flip : ∀ l m, lexC m l = - lexC l m
  | [], [] => by simp [lexC]
  | [], _ :: _ => by simp [lexC]
  | _ :: _, [] => by simp [lexC]
  | a :: l, b :: m => by
    have := lexC_flip l m
    unfold lexC
    split <;> split <;> first | omega | (split <;> omega)
theorem lexC_tot : TotC lexC where
  self := lexC_self
  zero _ _ h := lexC_zero h
  trans a b d h1 h2 := by
    by_cases e : lexC a b = 0
    · rw [lexC_zero e]; exact h2
    · have := lexC_trans (l := a) (m := b) (k := d) (by omega) h2; omega
  total a b := by have := lexC_flip a b; omega
  anti a b h := by have := lexC_flip a b; omega
/-- Shorter rows first. -/
def cmpW (u v : List Int) : Int := if u.length ≠ v.length then (u.length : Int) - v.length else lexC u v
theorem cmpW_tot : TotC cmpW where
  self a := by simp [cmpW, lexC_self]
  zero a b h := by
    unfold cmpW at h
    split at h
    · omega
    · exact lexC_zero h
  trans a b d h1 h2 := by
    unfold cmpW at *
    by_cases e1 : a.length = b.length <;> by_cases e2 : b.length = d.length
    · rw [if_neg (by omega)] at h1 h2 ⊢
      exact lexC_tot.trans a b d h1 h2
    · rw [if_pos e2] at h2; rw [if_pos (by omega)]; omega
    · rw [if_pos e1] at h1; rw [if_pos (by omega)]; omega
    · rw [if_pos e1] at h1; rw [if_pos e2] at h2; rw [if_pos (by omega)]; omega
  total a b := by
    unfold cmpW
    by_cases e : a.length = b.length
    · rw [if_neg (by omega), if_neg (by omega)]; exact lexC_tot.total a b
    · rw [if_pos e, if_pos (by omega)]; omega
  anti a b h := by
    unfold cmpW at *
    by_cases e : a.length = b.length
    · rw [if_neg (by omega)] at h ⊢; exact lexC_tot.anti a b h
    · rw [if_pos e] at h; rw [if_pos (by omega)]; omega
def sortR (c : List Int → List Int → Int) (l : List (List Int)) : List (List Int) := l.mergeSort fun x y => decide (c x y ≤ 0)
theorem sortR_perm (c : List Int → List Int → Int) (l : List (List Int)) : (sortR c l).Perm l := List.mergeSort_perm l _
theorem sortR_sorted {c : List Int → List Int → Int} (h : TotC c) (l : List (List Int)) : (sortR c l).Pairwise fun x y => c x y ≤ 0 := by
  have := List.pairwise_mergeSort (le := fun x y => decide (c x y ≤ 0)) (fun a b d h1 h2 => by simp at *; exact h.trans a b d h1 h2) (fun a b => by
    have := h.total a b
    simp only [Bool.or_eq_true, decide_eq_true_eq]; omega) l
  exact this.imp fun h => by simpa using h
theorem sortR_eq {c : List Int → List Int → Int} (h : TotC c) {l m : List (List Int)} (hp : l.Perm m) (hm : m.Pairwise fun x y => c x y ≤ 0) : sortR c l = m :=
  List.Perm.eq_of_pairwise (le := fun x y => c x y ≤ 0) (fun a b _ _ h1 h2 => h.asym h1 h2) (sortR_sorted h l) hm ((sortR_perm c l).trans hp)
@[simp] theorem sortR_length (c : List Int → List Int → Int) (l : List (List Int)) : (sortR c l).length = l.length := (sortR_perm c l).length_eq
theorem sortR_mem {c : List Int → List Int → Int} {l : List (List Int)} {y : List Int} : y ∈ sortR c l ↔ y ∈ l := (sortR_perm c l).mem_iff
theorem sortR_nil (c : List Int → List Int → Int) : sortR c [] = [] := by simp [sortR]
/-- One more row, in its place. -/
def insR (c : List Int → List Int → Int) (n : List Int) : List (List Int) → List (List Int)
  | [] => [n]
  | y :: l => if c y n < 0 then y :: insR c n l else n :: y :: l
theorem insR_perm (c : List Int → List Int → Int) (n : List Int) : ∀ l, (insR c n l).Perm (n :: l)
  | [] => .refl _
  | y :: l => by
    unfold insR; split
    · exact ((insR_perm c n l).cons y).trans (.swap n y l)
    · exact .refl _
theorem insR_sorted {c : List Int → List Int → Int} (h : TotC c) {n : List Int} : ∀ {l : List (List Int)}, l.Pairwise (fun x y => c x y ≤ 0) → (insR c n l).Pairwise fun x y => c x y ≤ 0
  | [], _ => by simp [insR]
  | y :: l, hl => by
    rw [List.pairwise_cons] at hl
    unfold insR; split
    · rename_i hlt
      rw [List.pairwise_cons]
      refine ⟨fun a ha => ?_, insR_sorted h hl.2⟩
      have := (insR_perm c n l).mem_iff.1 ha
      rcases List.mem_cons.1 this with rfl | ha
      · omega
      · exact hl.1 a ha
    · rename_i hlt
      have hny : c n y ≤ 0 := by
        rcases h.total n y with h2 | h2
        · exact h2
        · exact absurd h2 hlt
      rw [List.pairwise_cons, List.pairwise_cons]
      refine ⟨fun a ha => ?_, hl⟩
      rcases List.mem_cons.1 ha with rfl | ha
      · exact hny
      · exact h.trans n y a hny (hl.1 a ha)
theorem sortR_snoc {c : List Int → List Int → Int} (h : TotC c) (l : List (List Int)) (n : List Int) : insR c n (sortR c l) = sortR c (l ++ [n]) := by
  refine (sortR_eq h ?_ (insR_sorted h (sortR_sorted h l))).symm
  refine .trans ?_ (insR_perm c n (sortR c l)).symm
  exact (List.perm_append_comm (l₁ := l) (l₂ := [n])).trans ((sortR_perm c l).symm.cons n)
/-- How many stand ahead of a row. -/
def insRAt (c : List Int → List Int → Int) (n : List Int) : List (List Int) → Nat
  | [] => 0
  | y :: l => if c y n < 0 then insRAt c n l + 1 else 0
theorem insRAt_le (c : List Int → List Int → Int) (n : List Int) : ∀ l, insRAt c n l ≤ l.length
  | [] => Nat.le_refl _
  | y :: l => by
    unfold insRAt; split
    · have := insRAt_le c n l; simp; exact this
    · simp
theorem insRAt_before {c : List Int → List Int → Int} {n : List Int} : ∀ {l : List (List Int)} {i : Nat}, i < insRAt c n l → c (nthR l i) n < 0
  | [], i, h => by simp [insRAt] at h
  | y :: l, i, h => by
    unfold insRAt at h
    split at h
    · cases i with
      | zero => simpa [nthR]
      | succ i => have := insRAt_before (c := c) (n := n) (l := l) (i := i) (by omega); simpa [nthR] using this
    · omega
theorem insRAt_at {c : List Int → List Int → Int} {n : List Int} : ∀ {l : List (List Int)}, insRAt c n l < l.length → ¬ c (nthR l (insRAt c n l)) n < 0
  | [], h => by simp at h
  | y :: l, h => by
    unfold insRAt at h ⊢
    split
    · rename_i hlt
      rw [if_pos hlt] at h
      have := insRAt_at (l := l) (by simpa using h)
      simpa [nthR] using this
    · rename_i hlt
      simpa [nthR] using hlt
theorem insRAt_eq {c : List Int → List Int → Int} {n : List Int} {l : List (List Int)} {k : Nat} (hk : k ≤ l.length) (h1 : ∀ i, i < k → c (nthR l i) n < 0) (h2 : k < l.length → ¬ c (nthR l k) n < 0) : k = insRAt c n l := by
  have h3 := insRAt_le c n l
  rcases Nat.lt_trichotomy k (insRAt c n l) with h | h | h
  · exact absurd (insRAt_before h) (h2 (by omega))
  · exact h
  · exact absurd (h1 _ h) (insRAt_at (by omega))
theorem insR_eq (c : List Int → List Int → Int) (n : List Int) : ∀ l, insR c n l = l.take (insRAt c n l) ++ n :: l.drop (insRAt c n l)
  | [] => rfl
  | y :: l => by
    unfold insR insRAt; split
    · rw [insR_eq c n l]; rfl
    · rfl
/-- Rows of one length: the order is the same. -/
theorem sortR_same {l : List (List Int)} {n : Nat} (h : ∀ r ∈ l, r.length = n) : sortR lexC l = sortR cmpW l := by
  refine sortR_eq lexC_tot (sortR_perm cmpW l).symm ?_
  have := sortR_sorted cmpW_tot l
  refine List.Pairwise.imp_of_mem (fun {a b} ha hb hab => ?_) this
  have ea := h a (sortR_mem.1 ha)
  have eb := h b (sortR_mem.1 hb)
  unfold cmpW at hab
  rw [if_neg (by omega)] at hab
  exact hab
def gsSt (z : AsyV) (c : List Int) (L : List (List Int)) (a : Nat) : List (List Int) := match stepV z c a with
  | none => L
  | some g => if g ∈ L then L else L ++ [g]
def gsFo (z : AsyV) (c : List Int) (L : List (List Int)) (k : Nat) : List (List Int) := (List.range k).foldl (gsSt z c) L
theorem gsFo_succ (z : AsyV) (c : List Int) (L : List (List Int)) (k : Nat) : gsFo z c L (k + 1) = gsSt z c (gsFo z c L k) k := by
  unfold gsFo; rw [List.range_succ, List.foldl_append]; rfl
theorem gsFo_zero (z : AsyV) (c : List Int) (L : List (List Int)) : gsFo z c L 0 = L := rfl
def gsB (z : AsyV) : Nat → Nat → List (List Int) → List (List Int)
  | 0, _, L => L
  | f + 1, i, L => if i < L.length then gsB z f (i + 1) (gsFo z (nthR L i) L z.places.length) else L
def statesV (z : AsyV) : List (List Int) := gsB z 300 0 [z.start]
theorem gsSt_ext (z : AsyV) (c : List Int) (L : List (List Int)) (a : Nat) : ∃ t, gsSt z c L a = L ++ t := by
  unfold gsSt
  split
  · exact ⟨[], by simp⟩
  · split
    · exact ⟨[], by simp⟩
    · exact ⟨_, rfl⟩
theorem gsFo_ext (z : AsyV) (c : List Int) (L : List (List Int)) : ∀ k, ∃ t, gsFo z c L k = L ++ t
  | 0 => ⟨[], by simp [gsFo]⟩
  | k + 1 => by
    obtain ⟨t, ht⟩ := gsFo_ext z c L k
    obtain ⟨t', ht'⟩ := gsSt_ext z c (gsFo z c L k) k
    exact ⟨t ++ t', by rw [gsFo_succ, ht', ht, List.append_assoc]⟩
theorem nthR_ext {L t : List (List Int)} {i : Nat} (h : i < L.length) : nthR (L ++ t) i = nthR L i := by
  rw [nthR_at (by simp; omega), nthR_at h, List.getElem_append_left h]
/-- No state twice; all of them states of four processes of four states. -/
structure GOk (z : AsyV) (L : List (List Int)) : Prop where
  nd : L.Nodup
  gl : ∀ g ∈ L, isGlob z.sizes g = true
def codeR : List Int → Nat
  | [] => 0
  | x :: l => x.toNat + 4 * codeR l
theorem codeR_lt : ∀ (l : List Int), (∀ x ∈ l, 0 ≤ x ∧ x ≤ 3) → codeR l < 4 ^ l.length
  | [], _ => by simp [codeR]
  | x :: l, h => by
    have ih := codeR_lt l (fun y hy => h y (by simp [hy]))
    have hx := h x (by simp)
    simp only [codeR, List.length_cons, Nat.pow_succ]
    omega
theorem codeR_inj : ∀ {l m : List Int}, l.length = m.length → (∀ x ∈ l, 0 ≤ x ∧ x ≤ 3) → (∀ x ∈ m, 0 ≤ x ∧ x ≤ 3) → codeR l = codeR m → l = m
  | [], [], _, _, _, _ => rfl
  | x :: l, y :: m, h, h1, h2, he => by
    have hx := h1 x (by simp)
    have hy := h2 y (by simp)
    simp only [codeR] at he
    have e1 : x = y := by omega
    have e2 := codeR_inj (l := l) (m := m) (by simpa using h) (fun z hz => h1 z (by simp [hz])) (fun z hz => h2 z (by simp [hz])) (by omega)
    rw [e1, e2]
  | [], _ :: _, h, _, _, _ => by simp at h
  | _ :: _, [], h, _, _, _ => by simp at h
theorem glob_rng {z : AsyV} (hz : SzOk z) {g : List Int} (h : isGlob z.sizes g = true) : g.length = z.sizes.length ∧ ∀ x ∈ g, 0 ≤ x ∧ x ≤ 3 := by
  obtain ⟨h1, h2⟩ := isGlob_iff.1 h
  refine ⟨h1, fun x hx => ?_⟩
  obtain ⟨p, hp, rfl⟩ := List.mem_iff_getElem.1 hx
  have h3 := h2 p hp
  rw [nth_at hp] at h3
  have h4 := hz.2 _ (nth_mem (show p < z.sizes.length by omega))
  omega
theorem GOk.le {z : AsyV} (hz : SzOk z) {L : List (List Int)} (h : GOk z L) : L.length ≤ 256 := by
  have h1 : (L.map codeR).Nodup := by
    rw [List.nodup_iff_pairwise_ne, List.pairwise_map]
    refine List.Pairwise.imp_of_mem (fun {a b} ha hb hab e => ?_) (List.nodup_iff_pairwise_ne.1 h.nd)
    have ga := glob_rng hz (h.gl a ha)
    have gb := glob_rng hz (h.gl b hb)
    exact hab (codeR_inj (by omega) ga.2 gb.2 e)
  have h2 := nodup_bound 256 (L.map codeR) h1 (fun x hx => by
    obtain ⟨g, hg, rfl⟩ := List.mem_map.1 hx
    have gg := glob_rng hz (h.gl g hg)
    have h3 := codeR_lt g gg.2
    have h4 : 4 ^ g.length ≤ 4 ^ 4 := Nat.pow_le_pow_right (by omega) (by have := hz.1; omega)
    have : (4 : Nat) ^ 4 = 256 := by decide
    omega)
  simpa using h2
theorem nth_setP {l : List Int} {p q : Nat} {v : Int} (hq : q < l.length) : nth (l.set p v) q = if p = q then v else nth l q := by
  rw [nth_at (by simpa using hq), List.getElem_set, nth_at hq]
theorem putL_glob {sizes bs to : List Int} (hto : ∀ k, k < bs.length → 0 ≤ nth to k ∧ nth to k ≤ nth sizes (nth bs k).toNat - 1) : ∀ k, k ≤ bs.length → ∀ {g : List Int}, isGlob sizes g = true → isGlob sizes (putL g bs to k) = true
  | 0, _, g, h => h
  | k + 1, hk, g, h => by
    have ih := putL_glob hto k (by omega) h
    rw [isGlob_iff] at ih ⊢
    refine ⟨by simpa [putL] using ih.1, fun p hp => ?_⟩
    have hp' : p < (putL g bs to k).length := by simpa [putL] using hp
    unfold putL
    rw [nth_setP hp']
    split
    · rename_i e
      rw [← e]; exact hto k (by omega)
    · exact ih.2 p hp'
theorem stepV_glob {z : AsyV} (hz : isAsy z = true) {g g' : List Int} {a : Nat} (ha : a < z.places.length) (hg : isGlob z.sizes g = true) (h : stepV z g a = some g') : isGlob z.sizes g' = true := by
  obtain ⟨⟨f1, f2⟩, f3, f4, f5, f6, f7⟩ := isAsy_facts hz
  have hT := (f3 a ha).2
  have hgl := isGlob_len hg
  unfold stepV at h
  cases hs : stepI z g a with
  | none => rw [hs] at h; simp at h
  | some i =>
    rw [hs] at h
    simp only [Option.map_some, Option.some.injEq] at h
    rw [← h]
    unfold stepI at hs
    have hm := List.mem_of_find?_eq_some hs
    rw [List.mem_range] at hm
    have hp := List.find?_some hs
    simp only [Bool.and_eq_true, decide_eq_true_eq] at hp
    have hj := f5
    simp only [jointsOk, Bool.and_eq_true, List.all_eq_true, List.mem_range] at hj
    have hj := hj.1 i hm
    simp only [jOk, Bool.and_eq_true, Bool.or_eq_true, decide_eq_true_eq] at hj
    obtain ⟨⟨⟨⟨h1, h2⟩, h3⟩, h4⟩, _⟩ := hj
    rw [hp.1, Int.toNat_natCast] at h4
    have hbl := bits_len (m := nth z.places a) (n := z.sizes.length) (by omega) hT
    unfold stepTo
    rw [hgl, ← hbl]
    refine putL_glob (fun k hk => ?_) _ (Nat.le_refl _) hg
    obtain ⟨h5, h6⟩ := isGlob_iff.1 h4
    rw [pick_len, ← hbl] at h5
    have h7 := h6 k (by omega)
    have hpb := pick_bits (l := z.sizes) (m := nth z.places a) (by omega) hT
    rw [← hpb] at h7
    have e : nth ((bitsOf (nth z.places a)).map fun i => nth z.sizes i.toNat) k = nth z.sizes (nth (bitsOf (nth z.places a)) k).toNat := by
      rw [nth_at (by simpa using hk), List.getElem_map, nth_at hk]
    rw [e] at h7
    exact h7
theorem gsSt_ok {z : AsyV} (hz : isAsy z = true) {c : List Int} (hc : isGlob z.sizes c = true) {L : List (List Int)} (h : GOk z L) {a : Nat} (ha : a < z.places.length) : GOk z (gsSt z c L a) := by
  unfold gsSt
  cases hs : stepV z c a with
  | none => exact h
  | some g =>
    simp only
    split
    · exact h
    · rename_i hn
      refine ⟨List.nodup_append.2 ⟨h.nd, by simp, fun u hu v hv e => by simp at hv; subst e; rw [hv] at hu; exact hn hu⟩, fun q hq => ?_⟩
      rcases List.mem_append.1 hq with hq | hq
      · exact h.gl q hq
      · simp at hq; subst hq; exact stepV_glob hz ha hc hs
theorem gsFo_ok {z : AsyV} (hz : isAsy z = true) {c : List Int} (hc : isGlob z.sizes c = true) {L : List (List Int)} (h : GOk z L) : ∀ k, k ≤ z.places.length → GOk z (gsFo z c L k)
  | 0, _ => h
  | k + 1, hk => by rw [gsFo_succ]; exact gsSt_ok hz hc (gsFo_ok hz hc h k (by omega)) (by omega)
theorem gs_start {z : AsyV} (hz : isAsy z = true) : GOk z [z.start] := ⟨by simp, fun g hg => by simp at hg; subst hg; exact (isAsy_facts hz).2.2.1⟩
theorem gsB_ok {z : AsyV} (hz : isAsy z = true) : ∀ (f i : Nat) (L : List (List Int)), GOk z L → GOk z (gsB z f i L)
  | 0, i, L, h => h
  | f + 1, i, L, h => by
    unfold gsB
    split
    · rename_i hi
      exact gsB_ok hz f (i + 1) _ (gsFo_ok hz (h.gl _ (nthR_mem hi)) h _ (Nat.le_refl _))
    · exact h
theorem gsB_end {z : AsyV} {f i : Nat} {L : List (List Int)} (h : ¬ i < L.length) : gsB z f i L = L := by
  cases f with
  | zero => rfl
  | succ f => unfold gsB; rw [if_neg h]
theorem gsB_go {z : AsyV} {i : Nat} {L : List (List Int)} (h : i < L.length) (hi : i < 300) : gsB z (300 - i) i L = gsB z (300 - (i + 1)) (i + 1) (gsFo z (nthR L i) L z.places.length) := by
  rw [show 300 - i = (300 - (i + 1)) + 1 by omega]
  rw [gsB, if_pos h]
def globalStatesV (z : AsyV) : List (List Int) × Int := if isAsy z then (if (statesV z).length ≤ 64 then (sortR lexC (statesV z), 0) else ([], 3)) else ([], 1)
theorem srows_drop (b : Bool) (rs : List (List Int)) (n : Nat) : (srows b rs).drop n = srows b (rs.drop n) := by simp [srows, List.map_drop]
theorem srows_take (b : Bool) (rs : List (List Int)) (n : Nat) : (srows b rs).take n = srows b (rs.take n) := by simp [srows, List.map_take]
theorem srows_append (b : Bool) (rs qs : List (List Int)) : srows b (rs ++ qs) = srows b rs ++ srows b qs := by simp [srows]
theorem l12Before_spec (a b : Bool) (u v : List Int) (hu : Fits u) (hv : Fits v) : ACalls1 Tryz.prog 141 [.sl 1 a (ints u), .sl 1 b (ints v)] (bv (decide (cmpW u v < 0))) := by
  have hu' := hu
  have hv' := hv
  unfold Fits at hu' hv'
  refine walk (fun _ => false) mixed Go.Proofs.Tryz.func141 rfl rfl rfl (by kernel_rfl) rfl (by simp) (by kernel_rfl) ?_
  unfold cmpW
  by_cases h : u.length = v.length
  · simp [h]
    refine ⟨_, l01Less_spec _ _ _ _ hu hv, ?_⟩
    simp
  · simp [h]
    omega
theorem l12Put_spec (a b : Bool) (rs : List (List Int)) (hl : rs.length ≤ 1000000) (hr : ∀ r ∈ rs, Fits r) (w : List Int) (hw : Fits w) (hn : ¬ w ∈ rs) : ACalls1 Tryz.prog 60 [.sl 1 a (srows true rs), .sl 1 b (ints w)] (.own 1 true (srows true (insR cmpW w rs))) := by
  refine walk (fun t => t == 1034 || t == 3035) mixed Go.Proofs.Tryz.func60 rfl rfl rfl (by kernel_rfl) rfl (by simp) (by kernel_rfl) ?_
  simp
  refine awp_loop2 [0, 1] [] (fun k : Nat => [(5, iv k)]) (fun _ => []) (fun k => k ≤ rs.length ∧ ∀ i, i < k → cmpW (nthR rs i) w < 0) (fun k => rs.length - k) 0 (weak_mk some (by simp) (by simp) rfl) ⟨by simp, by simp⟩ ?_
  rintro k ⟨hk, hp⟩
  have stop : (k < rs.length → ¬ cmpW (nthR rs k) w < 0) → k = insRAt cmpW w rs := fun h => insRAt_eq hk hp h
  by_cases hkl : k < rs.length
  · simp [hkl]
    refine ⟨_, l12Before_spec _ _ _ _ (hr _ (nthR_mem hkl)) hw, ?_⟩
    by_cases hkn : cmpW (nthR rs k) w < 0
    · simp [hkn, wrap_id ((k : Int) + 1) (by omega) (by omega)]
      refine Round.mk (k + 1) (weak_mk some (by simp) (by simp) rfl) ⟨hkl, fun i hi => ?_⟩ (by omega)
      by_cases e : i = k
      · subst e; exact hkn
      · exact hp i (by omega)
    · have hat := stop (fun _ => hkn)
      have hne : ¬ nthR rs k = w := fun e => hn (e ▸ nthR_mem hkl)
      rw [insR_eq, ← hat]
      simp [hkl, hkn]
      refine ⟨_, l01Same_spec _ _ _ _ (hr _ (nthR_mem hkl)) hw, ?_⟩
      simp [hne]
      refine ⟨_, l01Own_spec _ w hw, ?_⟩
      have h2 : (rs.drop k).take (rs.length - k) = rs.drop k := List.take_of_length_le (by simp)
      have hmin : min k rs.length = k := by omega
      simp [srows_drop, srows_take, h2, hmin]
      repeat (refine And.intro (by first | omega | exact ⟨by kernel_rfl, by kernel_rfl⟩) ?_)
      left
      rw [← srows_cons, ← srows_append]
      exact .refl _
  · have hat := stop (fun h => absurd h hkl)
    obtain rfl : k = rs.length := by omega
    rw [insR_eq, ← hat]
    simp
    refine ⟨_, l01Own_spec _ w hw, ?_⟩
    simp [srows_drop, srows_take]
    first | refine ⟨⟨by kernel_rfl, by kernel_rfl⟩, ?_⟩ | exact ⟨by kernel_rfl, by kernel_rfl⟩
    omega
theorem states_ok {z : AsyV} (hz : isAsy z = true) : GOk z (statesV z) := gsB_ok hz 300 0 _ (gs_start hz)
theorem states_sort {z : AsyV} (hz : isAsy z = true) : sortR cmpW (statesV z) = sortR lexC (statesV z) :=
  (sortR_same (n := z.sizes.length) fun r hr => isGlob_len ((states_ok hz).gl r hr)).symm
end Go.AM
