/-
  Contracts: the smallest word of a configuration.
-/
import Derived.Test.YthabclhldlikfaaDoorFnW
set_option linter.unusedVariables false
set_option linter.unusedSimpArgs false
set_option maxRecDepth 100000
set_option maxHeartbeats 1600000
namespace Go.AM
open Go.Proofs
/-- An event of a configuration that can follow some of its events. -/
def canS (x : StrucV) (c s : Int) (e : Nat) : Bool := tb c e && !tb s e && (ibits .andNot .i64 (nth x.below e) s == 0)
def candL (x : StrucV) (c s : Int) : List Nat := (List.range x.labels.length).filter (canS x c s)
def readyV (x : StrucV) (c s : Int) : List Int := (candL x c s).map fun (e : Nat) => (e : Int)
theorem candL_mem {x : StrucV} {c s : Int} {e : Nat} (h : e ∈ candL x c s) : e < x.labels.length ∧ tb c e = true ∧ tb s e = false ∧ ibits .andNot .i64 (nth x.below e) s = 0 := by
  unfold candL canS at h
  simp only [List.mem_filter, List.mem_range, Bool.and_eq_true, Bool.not_eq_true', beq_iff_eq] at h
  exact ⟨h.1, h.2.1.1, h.2.1.2, h.2.2⟩
theorem candL_length (x : StrucV) (c s : Int) : (candL x c s).length ≤ x.labels.length := by
  unfold candL
  exact Nat.le_trans (List.length_filter_le _ _) (by simp)
/-- One more event in the search for the next letter. -/
def stepC (x : StrucV) (s : Int) (st : Int × List Int) (e : Nat) : Int × List Int :=
  if nth x.labels e < st.1 then (nth x.labels e, [ibits .or .i64 s (pow1 e)]) else if nth x.labels e = st.1 then (if ibits .or .i64 s (pow1 e) ∈ st.2 then st else (st.1, st.2 ++ [ibits .or .i64 s (pow1 e)])) else st
def scanC (x : StrucV) (c : Int) (st : Int × List Int) (s : Int) : Int × List Int := (candL x c s).foldl (stepC x s) st
def levelC (x : StrucV) (c : Int) (sets : List Int) : Int × List Int := sets.foldl (scanC x c) (8, [])
/-- The next letters, and the sets of events behind them. -/
def wordS (x : StrucV) (c : Int) : Nat → List Int × List Int
  | 0 => ([], [0])
  | k + 1 => ((wordS x c k).1 ++ [(levelC x c (wordS x c k).2).1], (levelC x c (wordS x c k).2).2)
def wordC (x : StrucV) (c : Int) : List Int := (wordS x c (popc c.toNat)).1
/-- Sets of events, each once. -/
def okS (n : Nat) (l : List Int) : Prop := l.Nodup ∧ ∀ y ∈ l, isM n y = true
theorem okS_length {n : Nat} (hn : n ≤ 16) {l : List Int} (h : okS n l) : l.length ≤ 65536 := by
  have hp : (2 : Nat) ^ n ≤ 65536 := Nat.pow_le_pow_right (by omega) (show n ≤ 16 from hn)
  have hb : ∀ y ∈ l, 0 ≤ y ∧ y.toNat < 65536 := fun y hy => by
    have := h.2 y hy
    unfold isM at this
    simp only [Bool.and_eq_true, decide_eq_true_eq] at this
    rw [full_eq (by omega)] at this
    have := Nat.two_pow_pos n
    omega
  have hmap : (l.map Int.toNat).Nodup := by
    rw [List.nodup_iff_pairwise_ne] at *
    have h1 := h.1
    rw [List.Nodup] at h1
    rw [List.pairwise_map]
    refine List.Pairwise.imp_of_mem ?_ h1
    intro a b ha hb' hne e
    have := hb a ha; have := hb b hb'
    omega
  have := nodup_bound 65536 _ hmap (fun y hy => by
    obtain ⟨z, hz, rfl⟩ := List.mem_map.1 hy
    exact (hb z hz).2)
  simpa using this
theorem isM_or1 {n : Nat} (hn : n ≤ 16) {s : Int} (h : isM n s = true) {e : Nat} (he : e < n) : isM n (ibits .or .i64 s (pow1 e)) = true := by
  obtain ⟨hM, hb⟩ := isM_spec (by omega) h
  refine isM_of (by omega) (M_or hM (M_pow1 (by omega))) fun i hi => ?_
  rw [tb_or hM (M_pow1 (by omega)), hb i hi, tb_pow1 (by omega)]; simp; omega
theorem stepC_ok {x : StrucV} (hn : x.labels.length ≤ 16) {s : Int} (hs : isM x.labels.length s = true) {e : Nat} (he : e < x.labels.length) {st : Int × List Int} (h : okS x.labels.length st.2) : okS x.labels.length (stepC x s st e).2 := by
  have hm := isM_or1 hn hs he
  unfold stepC
  split
  · exact ⟨by simp, fun y hy => by simp at hy; rw [hy]; exact hm⟩
  · split
    · split
      · exact h
      · rename_i hnot
        refine ⟨List.nodup_append.2 ⟨h.1, by simp, fun a ha b hb e => ?_⟩, fun y hy => ?_⟩
        · simp at hb; subst e; rw [hb] at ha; exact hnot ha
        · simp only [List.mem_append, List.mem_singleton] at hy
          rcases hy with hy | rfl
          · exact h.2 y hy
          · exact hm
    · exact h
theorem foldC_ok {x : StrucV} (hn : x.labels.length ≤ 16) {s : Int} (hs : isM x.labels.length s = true) : ∀ (l : List Nat) {st : Int × List Int}, (∀ e ∈ l, e < x.labels.length) → okS x.labels.length st.2 → okS x.labels.length (l.foldl (stepC x s) st).2
  | [], st, _, h => h
  | e :: l, st, hl, h => foldC_ok hn hs l (fun f hf => hl f (by simp [hf])) (stepC_ok hn hs (hl e (by simp)) h)
theorem scanC_ok {x : StrucV} (hn : x.labels.length ≤ 16) {c s : Int} (hs : isM x.labels.length s = true) {st : Int × List Int} (h : okS x.labels.length st.2) : okS x.labels.length (scanC x c st s).2 :=
  foldC_ok hn hs _ (fun e he => (candL_mem he).1) h
theorem scans_ok {x : StrucV} (hn : x.labels.length ≤ 16) {c : Int} : ∀ (l : List Int) {st : Int × List Int}, (∀ s ∈ l, isM x.labels.length s = true) → okS x.labels.length st.2 → okS x.labels.length (l.foldl (scanC x c) st).2
  | [], st, _, h => h
  | s :: l, st, hl, h => scans_ok hn l (fun f hf => hl f (by simp [hf])) (scanC_ok hn (hl s (by simp)) h)
theorem okS_nil (n : Nat) : okS n [] := ⟨List.nodup_nil, fun y hy => by cases hy⟩
theorem okS_zero (n : Nat) (hn : n ≤ 16) : okS n [0] := ⟨by simp, fun y hy => by simp at hy; subst hy; exact isM_of (by omega) M_zero (fun i _ => by simp)⟩
theorem wordS_ok {x : StrucV} (hn : x.labels.length ≤ 16) (c : Int) : ∀ k, okS x.labels.length (wordS x c k).2
  | 0 => okS_zero _ hn
  | k + 1 => scans_ok hn _ (wordS_ok hn c k).2 (okS_nil _)
theorem wordS_length (x : StrucV) (c : Int) : ∀ k, (wordS x c k).1.length = k
  | 0 => rfl
  | k + 1 => by simp [wordS, wordS_length x c k]
theorem foldl_take_succ {α β : Type} (f : β → α → β) (b : β) (l : List α) (k : Nat) (h : k < l.length) : (l.take (k + 1)).foldl f b = f ((l.take k).foldl f b) l[k] := by
  rw [List.take_succ_eq_append_getElem h, List.foldl_append]; rfl
theorem isM_lt {n : Nat} (hn : n ≤ 16) {c : Int} (h : isM n c = true) : c.toNat < 65536 := by
  unfold isM at h
  simp only [Bool.and_eq_true, decide_eq_true_eq] at h
  rw [full_eq (by omega)] at h
  have hp : (2 : Nat) ^ n ≤ 65536 := Nat.pow_le_pow_right (by omega) (show n ≤ 16 from hn)
  have := Nat.two_pow_pos n
  omega
theorem Contains_nil (n : Int) : ACalls1 Tryd.prog 36 [.val (.slice none 0 0), iv n] (bv false) := by
  have := (Contains_spec false [] (by simp [Fits]) n)
  simp only [ints_nil] at this
  simpa using this.nil1 rfl
end Go.AM
