/-
  The reached markings of a net, in the order of the first runs that lead to them, and these runs.
-/
import Derived.Test.YtimfhkglmiihgaaDoorFnG
import Derived.Test.YtimfhkglmiihgaaDoorFnSi
set_option linter.unusedVariables false
set_option linter.unusedSimpArgs false
set_option maxRecDepth 100000
namespace Go.AM
open Go.Proofs
abbrev BL := List (Int × List Int)
def keys (L : BL) : List Int := L.map Prod.fst
def runs (L : BL) : List (List Int) := L.map Prod.snd
@[simp] theorem keys_length (L : BL) : (keys L).length = L.length := by simp [keys]
@[simp] theorem runs_length (L : BL) : (runs L).length = L.length := by simp [runs]
theorem keys_snoc (L : BL) (p : Int × List Int) : keys (L ++ [p]) = keys L ++ [p.1] := by simp [keys]
theorem runs_snoc (L : BL) (p : Int × List Int) : runs (L ++ [p]) = runs L ++ [p.2] := by simp [runs]
/-- One more transition, from a marking with its run. -/
def stA (x : NetV) (p : Int × List Int) (L : BL) (a : Nat) : BL :=
  if fireBad x p.1 a then L else if fireTo x p.1 a ∈ keys L then L else if L.length ≤ 256 then L ++ [(fireTo x p.1 a, p.2 ++ [(a : Int)])] else L
def foA (x : NetV) (p : Int × List Int) (L : BL) (k : Nat) : BL := (List.range k).foldl (stA x p) L
theorem foA_succ (x : NetV) (p : Int × List Int) (L : BL) (k : Nat) : foA x p L (k + 1) = stA x p (foA x p L k) k := by
  unfold foA; rw [List.range_succ, List.foldl_append]; rfl
def blAt (L : BL) (i : Nat) : Int × List Int := L.getD i (0, [])
def procA (x : NetV) (L : BL) (i : Nat) : BL := foA x (blAt L i) L x.pre.length
def bfsA (x : NetV) : Nat → Nat → BL → BL
  | 0, _, L => L
  | f + 1, i, L => if i < L.length then bfsA x f (i + 1) (procA x L i) else L
def reachV (x : NetV) : BL := bfsA x 300 0 [(x.s, [])]
theorem stA_ext (x : NetV) (p : Int × List Int) (L : BL) (a : Nat) : ∃ t, stA x p L a = L ++ t := by
  unfold stA
  split
  · exact ⟨[], by simp⟩
  · split
    · exact ⟨[], by simp⟩
    · split
      · exact ⟨_, rfl⟩
      · exact ⟨[], by simp⟩
theorem foA_ext (x : NetV) (p : Int × List Int) (L : BL) : ∀ k, ∃ t, foA x p L k = L ++ t
  | 0 => ⟨[], by simp [foA]⟩
  | k + 1 => by
    obtain ⟨t, ht⟩ := foA_ext x p L k
    obtain ⟨t', ht'⟩ := stA_ext x p (foA x p L k) k
    exact ⟨t ++ t', by rw [foA_succ, ht', ht, List.append_assoc]⟩
theorem blAt_at {L : BL} {i : Nat} (h : i < L.length) : blAt L i = L[i] := by simp [blAt, h]
theorem blAt_ext {L t : BL} {i : Nat} (h : i < L.length) : blAt (L ++ t) i = blAt L i := by
  rw [blAt_at (by simp; omega), blAt_at h, List.getElem_append_left h]
theorem blAt_mem {L : BL} {i : Nat} (h : i < L.length) : blAt L i ∈ L := by rw [blAt_at h]; exact List.getElem_mem h
theorem keys_nth {L : BL} {i : Nat} (h : i < L.length) : nth (keys L) i = (blAt L i).1 := by
  rw [nth_at (by simpa using h), blAt_at h]; simp [keys]
theorem runs_nth {L : BL} {i : Nat} (h : i < L.length) : nthR (runs L) i = (blAt L i).2 := by
  rw [nthR_at (by simpa using h), blAt_at h]; simp [runs]
/-- What is known of the list: at most 257, no marking twice, all of them masks, runs no longer than so much. -/
structure BOk (x : NetV) (r : Nat) (L : BL) : Prop where
  le : L.length ≤ 257
  nd : (keys L).Nodup
  ms : ∀ p ∈ L, M p.1 ∧ p.1 ≤ full x.p
  rl : ∀ p ∈ L, p.2.length ≤ r
  ro : ∀ p ∈ L, ∀ y ∈ p.2, 0 ≤ y ∧ y ≤ 7
theorem or_le_full {n : Nat} (hn : n < 63) {a b : Int} (ha : M a) (hb : M b) (h1 : a ≤ full n) (h2 : b ≤ full n) : ibits .or .i64 a b ≤ full n :=
  le_full hn (M_or ha hb) fun i hi => by rw [tb_or ha hb, tb_of_le hn ha.1 h1 hi, tb_of_le hn hb.1 h2 hi]; rfl
theorem andNot_le_full {n : Nat} (hn : n < 63) {a b : Int} (ha : M a) (hb : M b) (h1 : a ≤ full n) : ibits .andNot .i64 a b ≤ full n :=
  le_full hn (M_andNot ha hb) fun i hi => by rw [tb_andNot ha hb, tb_of_le hn ha.1 h1 hi]; rfl
theorem fireTo_ok {x : NetV} (hx : isNet x.p x.pre x.post x.s = true) {m : Int} (hm : M m) (hmf : m ≤ full x.p) {a : Nat} (ha : a < x.pre.length) : M (fireTo x m a) ∧ fireTo x m a ≤ full x.p := by
  have hl := isNet_len hx
  obtain ⟨n, hn⟩ := Int.eq_ofNat_of_zero_le hl.2.2.1
  have hn12 : n ≤ 12 := by omega
  have h1 := isNet_masks hx _ (List.mem_append_left _ (nth_mem ha))
  have h2 := isNet_masks hx _ (List.mem_append_right _ (nth_mem (show a < x.post.length by omega)))
  have m1 := isNet_M hx _ (List.mem_append_left _ (nth_mem ha))
  have m2 := isNet_M hx _ (List.mem_append_right _ (nth_mem (show a < x.post.length by omega)))
  rw [hn] at h1 h2 hmf ⊢
  exact ⟨M_or (M_andNot hm m1) m2, or_le_full (by omega) (M_andNot hm m1) m2 (andNot_le_full (by omega) hm m1 hmf) h2.2⟩
theorem stA_ok {x : NetV} (hx : isNet x.p x.pre x.post x.s = true) {p : Int × List Int} {r : Nat} (hp : M p.1 ∧ p.1 ≤ full x.p) (hpr : p.2.length < r) (hpo : ∀ y ∈ p.2, 0 ≤ y ∧ y ≤ 7) {L : BL} (h : BOk x r L) {a : Nat} (ha : a < x.pre.length) : BOk x r (stA x p L a) := by
  have hl := isNet_len hx
  unfold stA
  split
  · exact h
  · split
    · exact h
    · rename_i hnot
      split
      · rename_i hlen
        refine ⟨by simp; omega, ?_, fun q hq => ?_, fun q hq => ?_, fun q hq => ?_⟩
        · rw [keys_snoc]
          exact List.nodup_append.2 ⟨h.nd, by simp, fun u hu v hv e => by simp at hv; subst e; rw [hv] at hu; exact hnot hu⟩
        · simp only [List.mem_append, List.mem_singleton] at hq
          rcases hq with hq | rfl
          · exact h.ms q hq
          · exact fireTo_ok hx hp.1 hp.2 ha
        · simp only [List.mem_append, List.mem_singleton] at hq
          rcases hq with hq | rfl
          · exact h.rl q hq
          · simp; omega
        · simp only [List.mem_append, List.mem_singleton] at hq
          rcases hq with hq | rfl
          · exact h.ro q hq
          · intro y hy
            simp only [List.mem_append, List.mem_singleton] at hy
            rcases hy with hy | rfl
            · exact hpo y hy
            · omega
      · exact h
theorem BOk.mono {x : NetV} {r s : Nat} {L : BL} (h : BOk x r L) (hrs : r ≤ s) : BOk x s L := ⟨h.le, h.nd, h.ms, fun p hp => Nat.le_trans (h.rl p hp) hrs, h.ro⟩
theorem foA_ok {x : NetV} (hx : isNet x.p x.pre x.post x.s = true) {r : Nat} {L : BL} (h : BOk x r L) {i : Nat} (hi : i < L.length) : ∀ k, k ≤ x.pre.length → BOk x (r + 1) (foA x (blAt L i) L k)
  | 0, _ => by simp only [foA, List.range_zero, List.foldl_nil]; exact h.mono (by omega)
  | k + 1, hk => by
    rw [foA_succ]
    have hm := blAt_mem hi
    exact stA_ok hx (h.ms _ hm) (by have := h.rl _ hm; omega) (h.ro _ hm) (foA_ok hx h hi k (by omega)) (by omega)
theorem bok_start {x : NetV} (hx : isNet x.p x.pre x.post x.s = true) : BOk x 0 [(x.s, [])] := by
  have h0 : 0 ≤ x.s ∧ x.s ≤ full x.p := by
    unfold isNet at hx
    simp at hx; omega
  refine ⟨by simp, by simp [keys], fun p hp => ?_, fun p hp => ?_, fun p hp => ?_⟩
  · simp at hp; subst hp; exact ⟨mark_M hx h0.1 h0.2, h0.2⟩
  · simp at hp; subst hp; simp
  · simp at hp; subst hp; simp
theorem bfsA_ok {x : NetV} (hx : isNet x.p x.pre x.post x.s = true) : ∀ (f i : Nat) (L : BL), BOk x i L → (∃ r, BOk x r (bfsA x f i L)) ∧ ∃ t, bfsA x f i L = L ++ t
  | 0, i, L, h => ⟨⟨i, h⟩, [], by simp [bfsA]⟩
  | f + 1, i, L, h => by
    unfold bfsA
    split
    · rename_i hi
      obtain ⟨h1, t, ht⟩ := bfsA_ok hx f (i + 1) (procA x L i) (foA_ok hx h hi _ (Nat.le_refl _))
      obtain ⟨t', ht'⟩ := foA_ext x (blAt L i) L x.pre.length
      exact ⟨h1, t' ++ t, by rw [ht, procA, ht', List.append_assoc]⟩
    · exact ⟨⟨i, h⟩, [], by simp⟩
theorem bfsA_end {x : NetV} {f i : Nat} {L : BL} (h : ¬ i < L.length) : bfsA x f i L = L := by
  cases f with
  | zero => rfl
  | succ f => unfold bfsA; rw [if_neg h]
theorem bfsA_go {x : NetV} {i : Nat} {L : BL} (h : i < L.length) (hi : i < 300) : bfsA x (300 - i) i L = bfsA x (300 - (i + 1)) (i + 1) (procA x L i) := by
  rw [show 300 - i = (300 - (i + 1)) + 1 by omega]
  rw [bfsA, if_pos h]
/-- The same without the runs, without the bound. -/
def stM (x : NetV) (c : Int) (m : List Int) (a : Nat) : List Int := if fireBad x c a then m else if fireTo x c a ∈ m then m else m ++ [fireTo x c a]
def foM (x : NetV) (c : Int) (m : List Int) (k : Nat) : List Int := (List.range k).foldl (stM x c) m
theorem foM_succ (x : NetV) (c : Int) (m : List Int) (k : Nat) : foM x c m (k + 1) = stM x c (foM x c m k) k := by
  unfold foM; rw [List.range_succ, List.foldl_append]; rfl
theorem stM_ext (x : NetV) (c : Int) (m : List Int) (a : Nat) : ∃ t, stM x c m a = m ++ t ∧ t.length ≤ 1 := by
  unfold stM
  split
  · exact ⟨[], by simp⟩
  · split
    · exact ⟨[], by simp⟩
    · exact ⟨_, rfl, by simp⟩
theorem foM_ext (x : NetV) (c : Int) (m : List Int) : ∀ k, ∃ t, foM x c m k = m ++ t ∧ t.length ≤ k
  | 0 => ⟨[], by simp [foM]⟩
  | k + 1 => by
    obtain ⟨t, ht, h1⟩ := foM_ext x c m k
    obtain ⟨t', ht', h2⟩ := stM_ext x c (foM x c m k) k
    exact ⟨t ++ t', by rw [foM_succ, ht', ht, List.append_assoc], by simp; omega⟩
theorem stAM {x : NetV} {p : Int × List Int} {L : BL} {m : List Int} (hle : L.length ≤ 257) (h : keys L = m.take 257) (a : Nat) : keys (stA x p L a) = (stM x p.1 m a).take 257 := by
  have hlen : L.length = min 257 m.length := by rw [← keys_length L, h, List.length_take]
  unfold stA stM
  by_cases hb : fireBad x p.1 a = true
  · rw [if_pos hb, if_pos hb]; exact h
  · rw [if_neg hb, if_neg hb]
    by_cases hm : fireTo x p.1 a ∈ m
    · rw [if_pos hm]
      by_cases hk : fireTo x p.1 a ∈ keys L
      · rw [if_pos hk]; exact h
      · rw [if_neg hk]
        have : ¬ L.length ≤ 256 := by
          intro h3
          rw [h, List.take_of_length_le (by omega)] at hk
          exact hk hm
        rw [if_neg this]; exact h
    · rw [if_neg hm]
      have hk : ¬ fireTo x p.1 a ∈ keys L := fun hk => hm (by rw [h] at hk; exact List.mem_of_mem_take hk)
      rw [if_neg hk]
      by_cases h3 : L.length ≤ 256
      · rw [if_pos h3, keys_snoc, h, List.take_of_length_le (by omega), List.take_of_length_le (by simp; omega)]
      · rw [if_neg h3, h, List.take_append_of_le_length (by omega)]
theorem foAM {x : NetV} (hx : isNet x.p x.pre x.post x.s = true) {r i : Nat} {L : BL} (hb : BOk x r L) (hi : i < L.length) {m : List Int} (h : keys L = m.take 257) : ∀ k, k ≤ x.pre.length → keys (foA x (blAt L i) L k) = (foM x (blAt L i).1 m k).take 257
  | 0, _ => h
  | k + 1, hk => by
    rw [foA_succ, foM_succ]
    exact stAM (foA_ok hx hb hi k (by omega)).le (foAM hx hb hi h k (by omega)) k
/-- Once there are too many, there are too many at the end. -/
theorem reach_big {x : NetV} (hx : isNet x.p x.pre x.post x.s = true) {f i : Nat} {L : BL} (hb : BOk x i L) (h : L.length = 257) : (bfsA x f i L).length = 257 := by
  obtain ⟨⟨r, h1⟩, t, ht⟩ := bfsA_ok hx f i L hb
  have := h1.le
  rw [ht, List.length_append] at this ⊢
  omega
theorem reach_ok {x : NetV} (hx : isNet x.p x.pre x.post x.s = true) : ∃ r, BOk x r (reachV x) := (bfsA_ok hx 300 0 _ (bok_start hx)).1
def markingsOfV (x : NetV) : List Int × Int := if isNet x.p x.pre x.post x.s then (if (reachV x).length ≤ 256 then (sortI (keys (reachV x)), 0) else ([], 3)) else ([], 1)
theorem MarkingsOf_fits (x : NetV) (hx : NetOk x) : ListOk (markingsOfV x).1 := by
  unfold markingsOfV
  split
  · rename_i h
    obtain ⟨r, hr⟩ := reach_ok h
    split
    · rename_i h2
      refine ⟨by simp [Fits]; omega, fun y hy => ?_⟩
      rw [sortI_mem] at hy
      obtain ⟨p, hp, rfl⟩ := List.mem_map.1 hy
      have := (hr.ms p hp).1
      unfold M at this
      unfold I64; omega
    · simp [ListOk, Fits]
  · simp [ListOk, Fits]
end Go.AM
