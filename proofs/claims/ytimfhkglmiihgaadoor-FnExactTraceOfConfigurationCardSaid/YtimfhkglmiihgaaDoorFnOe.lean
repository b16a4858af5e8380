/-
  CountOrders from the front: the step, the bound, sums over the candidates.
-/
import Derived.Test.YtimfhkglmiihgaaDoorFnOd
set_option linter.unusedVariables false
set_option linter.unusedSimpArgs false
set_option maxRecDepth 100000
namespace Go.AM
open Go.Proofs
theorem rem_zero {x : StrucV} {c d : Int} (hn : x.labels.length ≤ 16) (hc : isM x.labels.length c = true) (hd : inC x c d) (h : remN x.labels.length c d = 0) : d = c := by
  obtain ⟨hMc, hbc⟩ := isM_spec (by omega) hc
  obtain ⟨hMd, hbd⟩ := isM_spec (by omega) hd.1
  apply tb_ext hMd hMc
  intro i _
  rw [Bool.eq_iff_iff]
  constructor
  · exact hd.2 i
  · intro ht
    unfold remN at h
    rw [List.length_eq_zero_iff, List.filter_eq_nil_iff] at h
    by_cases hi : i < x.labels.length
    · have := h i (List.mem_range.2 hi)
      simp only [Bool.and_eq_true, Bool.not_eq_true', not_and, Bool.not_eq_false] at this
      exact this ht
    · rw [hbc i (by omega)] at ht; cases ht
theorem up_inC {x : StrucV} {c d : Int} (hn : x.labels.length ≤ 16) (hd : inC x c d) {e : Nat} (he : e < x.labels.length) (h : canS x c d e = true) : inC x c (upS d e) ∧ remN x.labels.length c (upS d e) + 1 = remN x.labels.length c d := by
  refine ⟨(stepsOf x c hn).Dup d e he hd h, ?_⟩
  obtain ⟨hMd, hbd⟩ := isM_spec (by omega) hd.1
  unfold canS at h
  simp only [Bool.and_eq_true, Bool.not_eq_true'] at h
  exact card_up hn hMd he h.1.1 h.1.2
theorem fN_step {x : StrucV} {c d : Int} (hn : x.labels.length ≤ 16) (hc : isM x.labels.length c = true) (hd : inC x c d) (hne : d ≠ c) : fN x c hn d = sumN (fun e => if canS x c d e = true then fN x c hn (upS d e) else 0) x.labels.length := by
  obtain ⟨k, hk⟩ : ∃ k, remN x.labels.length c d = k + 1 := ⟨remN x.labels.length c d - 1, by
    have : remN x.labels.length c d ≠ 0 := fun h => hne (rem_zero hn hc hd h)
    omega⟩
  unfold fN
  rw [hk, pf]
  refine sumN_congr fun e he => ?_
  show (if canS x c d e = true then pf (stepsOf x c hn) k (upS d e) c else 0) = _
  by_cases h : canS x c d e = true
  · rw [if_pos h, if_pos h]
    have := (up_inC hn hd he h).2
    rw [show remN x.labels.length c (upS d e) = k by omega]
  · rw [if_neg h, if_neg h]
theorem filter_len_le {p q : Nat → Bool} (h : ∀ i, p i = true → q i = true) : ∀ l : List Nat, (l.filter p).length ≤ (l.filter q).length
  | [] => Nat.le_refl _
  | a :: l => by
    have ih := filter_len_le h l
    rw [List.filter_cons, List.filter_cons]
    cases hp : p a
    · cases hq : q a <;> simp <;> omega
    · rw [h a hp]; simpa using ih
theorem fN_bound {x : StrucV} {c : Int} (hn : x.labels.length ≤ 16) (hc : isM x.labels.length c = true) : ∀ (k : Nat) (d : Int), remN x.labels.length c d = k → inC x c d → 0 ≤ fN x c hn d ∧ fN x c hn d ≤ facN k
  | 0, d, hk, hd => by
    have := rem_zero hn hc hd hk
    subst this
    rw [fN_end]
    exact ⟨by omega, Int.le_refl _⟩
  | k + 1, d, hk, hd => by
    have hne : d ≠ c := fun h => by
      subst h
      have : remN x.labels.length d d = 0 := by
        unfold remN
        rw [List.length_eq_zero_iff, List.filter_eq_nil_iff]
        intro i _; cases tb d i <;> simp
      omega
    have hup : ∀ e, e < x.labels.length → canS x c d e = true → 0 ≤ fN x c hn (upS d e) ∧ fN x c hn (upS d e) ≤ facN k := fun e he h => by
      obtain ⟨h1, h2⟩ := up_inC hn hd he h
      exact fN_bound hn hc k (upS d e) (by omega) h1
    rw [fN_step hn hc hd hne]
    refine ⟨sumN_nonneg fun e he => ?_, ?_⟩
    · by_cases h : canS x c d e = true
      · rw [if_pos h]; exact (hup e he h).1
      · rw [if_neg h]; omega
    · have h1 := sumN_le (f := fun e => if canS x c d e = true then fN x c hn (upS d e) else 0) (p := fun e => canS x c d e) (B := facN k) (k := x.labels.length)
        (fun e he ht => by simp only [ht, if_true]; exact (hup e he ht).2)
        (fun e he ht => by simp only [ht]; simp)
      have h2 : ((List.range x.labels.length).filter fun e => canS x c d e).length ≤ k + 1 := by
        rw [← hk]
        exact filter_len_le (fun i h => by
          unfold canS at h
          simp only [Bool.and_eq_true] at h
          simp [h.1.1]; simpa using h.1.2) _
      have h3 := facN_pos k
      have h4 : (((List.range x.labels.length).filter fun e => canS x c d e).length : Int) * facN k ≤ ((k : Int) + 1) * facN k := Int.mul_le_mul_of_nonneg_right (by omega) (by omega)
      rw [facN]; omega
theorem fN_le {x : StrucV} {c d : Int} (hn : x.labels.length ≤ 16) (hc : isM x.labels.length c = true) (hd : inC x c d) : 0 ≤ fN x c hn d ∧ fN x c hn d ≤ 20922789888000 := by
  have h := fN_bound hn hc _ d rfl hd
  have hl : remN x.labels.length c d ≤ 16 := by
    have := List.length_filter_le (fun i => tb c i && !tb d i) (List.range x.labels.length)
    rw [List.length_range] at this
    unfold remN; omega
  have := fac16 hl
  omega
/-- Sums over lists. -/
def sumL (f : Nat → Int) (l : List Nat) : Int := l.foldl (fun s e => s + f e) 0
theorem sumL_snoc (f : Nat → Int) (l : List Nat) (e : Nat) : sumL f (l ++ [e]) = sumL f l + f e := by simp [sumL, List.foldl_append]
theorem sumL_filter (f : Nat → Int) (p : Nat → Bool) : ∀ k, sumL f ((List.range k).filter p) = sumN (fun e => if p e = true then f e else 0) k
  | 0 => rfl
  | k + 1 => by
    rw [List.range_succ, List.filter_append, sumN, ← sumL_filter f p k]
    cases hp : p k
    · simp [hp]
    · simp only [List.filter_cons, hp, if_true, List.filter_nil]
      rw [sumL_snoc]
theorem fN_sum {x : StrucV} {c d : Int} (hn : x.labels.length ≤ 16) (hc : isM x.labels.length c = true) (hd : inC x c d) (hne : d ≠ c) : fN x c hn d = sumL (fun e => fN x c hn (upS d e)) (candL x c d) := by
  rw [fN_step hn hc hd hne, candL, sumL_filter]
theorem sumL_bd {f : Nat → Int} {B : Int} : ∀ (l : List Nat), (∀ e ∈ l, 0 ≤ f e ∧ f e ≤ B) → ∀ j, j ≤ l.length → 0 ≤ sumL f (l.take j) ∧ sumL f (l.take j) ≤ j * B
  | l, h, 0, _ => by simp [sumL]
  | l, h, j + 1, hj => by
    have ih := sumL_bd l h j (by omega)
    have hl : j < l.length := by omega
    rw [List.take_succ_eq_append_getElem hl, sumL_snoc]
    have := h l[j] (List.getElem_mem hl)
    have e2 : ((j + 1 : Nat) : Int) * B = j * B + B := by rw [Int.natCast_add, Int.add_mul]; simp
    rw [e2]; omega
/-- Entries that tell the truth. -/
def MapOk (x : StrucV) (c : Int) (hn : x.labels.length ≤ 16) (m : List (Int × Value)) : Prop := ∀ d v, m.lookup d = some v → inC x c d → v = .int .i64 (fN x c hn d)
theorem MapOk_nil (x : StrucV) (c : Int) (hn : x.labels.length ≤ 16) : MapOk x c hn [] := fun d v h => by simp at h
theorem MapOk_put {x : StrucV} {c : Int} {hn : x.labels.length ≤ 16} {m : List (Int × Value)} (h : MapOk x c hn m) (d : Int) : MapOk x c hn (putI d (.int .i64 (fN x c hn d)) m) := by
  intro y v hv hy
  rw [lookup_putI] at hv
  by_cases e : y = d
  · subst e; rw [if_pos rfl] at hv; simpa using hv.symm
  · rw [if_neg e] at hv; exact h y v hv hy
end Go.AM
