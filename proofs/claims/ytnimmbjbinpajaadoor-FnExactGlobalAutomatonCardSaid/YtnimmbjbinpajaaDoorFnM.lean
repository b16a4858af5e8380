/-
  Masks and their places; lists that are searched.
-/
import Derived.Test.YtnimmbjbinpajaaDoorFnNd
import Derived.Test.YtnimmbjbinpajaaDoorFnS
set_option linter.unusedVariables false
set_option linter.unusedSimpArgs false
set_option maxRecDepth 100000
set_option maxHeartbeats 1600000
namespace Go.AM
open Go.Proofs
theorem mem_bits {m : Int} {k : Nat} : (k : Int) ∈ bitsOf m ↔ k < 63 ∧ tb m k = true := by
  unfold bitsOf
  simp only [List.mem_map, List.mem_filter, List.mem_range]
  constructor
  · rintro ⟨j, ⟨h1, h2⟩, e⟩
    have : j = k := by omega
    subst this; exact ⟨h1, h2⟩
  · rintro ⟨h1, h2⟩; exact ⟨k, ⟨h1, h2⟩, rfl⟩
theorem bits_nth {m : Int} {j : Nat} (h : j < (bitsOf m).length) : ∃ k : Nat, nth (bitsOf m) j = k ∧ k < 63 ∧ tb m k = true := bitsOf_mem (nth_mem h)
/-- What holds at all places of a mask. -/
theorem bits_all {m : Int} {p : Nat → Prop} : (∀ j, j < (bitsOf m).length → p (nth (bitsOf m) j).toNat) ↔ ∀ k, k < 63 → tb m k = true → p k := by
  constructor
  · intro h k hk ht
    obtain ⟨i, hi, e⟩ := List.mem_iff_getElem.1 (mem_bits.2 ⟨hk, ht⟩)
    have := h i hi
    rw [nth_at hi, e, Int.toNat_natCast] at this
    exact this
  · intro h j hj
    obtain ⟨k, e, hk, ht⟩ := bits_nth hj
    rw [e, Int.toNat_natCast]; exact h k hk ht
theorem filter_range_le {p : Nat → Bool} {n N : Nat} (hn : n ≤ N) (h : ∀ e, n ≤ e → p e = false) : (List.range N).filter p = (List.range n).filter p := by
  obtain ⟨r, rfl⟩ : ∃ r, N = n + r := ⟨N - n, by omega⟩
  rw [List.range_add, List.filter_append]
  have : (List.map (fun x => n + x) (List.range r)).filter p = [] := List.filter_eq_nil_iff.2 fun j hj => by
    simp only [List.mem_map, List.mem_range] at hj
    obtain ⟨a, _, rfl⟩ := hj
    rw [h _ (by omega)]; simp
  rw [this, List.append_nil]
/-- The places of a mask that pass a test, in order. -/
theorem bits_filter {m : Int} {n : Nat} (hn : n ≤ 63) (hm : ∀ i, n ≤ i → tb m i = false) (p : Nat → Bool) : (bitsOf m).filter (fun y => p y.toNat) = ((List.range n).filter fun e => tb m e && p e).map fun (e : Nat) => (e : Int) := by
  unfold bitsOf
  rw [List.filter_map, List.filter_filter]
  rw [filter_range_le hn (fun e he => by simp [hm e he])]
  congr 1
  apply List.filter_congr
  intro e _
  simp [Bool.and_comm]
theorem bits_eq {m : Int} {n : Nat} (hn : n ≤ 63) (hm : ∀ i, n ≤ i → tb m i = false) : bitsOf m = ((List.range n).filter fun e => tb m e).map fun (e : Nat) => (e : Int) := by
  unfold bitsOf
  rw [filter_range_le hn hm]
theorem filter_take_succ {α : Type} (p : α → Bool) (l : List α) (k : Nat) (h : k < l.length) : (l.take (k + 1)).filter p = if p l[k] then (l.take k).filter p ++ [l[k]] else (l.take k).filter p := by
  rw [List.take_succ_eq_append_getElem h, List.filter_append]
  by_cases hp : p l[k] = true
  · simp [hp]
  · simp [hp]
theorem length_filter_take {α : Type} (p : α → Bool) (l : List α) (k : Nat) : ((l.take k).filter p).length ≤ l.length :=
  Nat.le_trans (List.length_filter_le _ _) (by rw [List.length_take]; omega)
/-! An argument that is told less. -/
theorem ACalls1.args {P : Program} {f : FuncId} {args args' : List AV} {r : AV} (h : ACalls1 P f args r) (ha : ∀ w I B vs, RepL w I (fun _ => none) args' B vs → RepL w I (fun _ => none) args B vs) (hb : immL args' = true) : ACalls1 P f args' r := by
  obtain ⟨h1, h2⟩ := h
  refine ⟨h1, fun w I B vs hI hG hr hn hB => ?_⟩
  have e := immL_nil args' B vs hb hr
  subst e
  refine (h2 w I [] vs hI hG (ha _ _ _ _ hr) hn hB).mono ?_
  rintro x w' ⟨ar, r', v, I', B₁, B₂, hr', e1, e2, e3, e4, e5, e6, e7, e8, e9, e10⟩
  refine ⟨args', r', v, I', B₁, [], hr', e1, e2, e3, e4, e5, ?_, ?_, ?_, e9, e10⟩
  · exact RepL.frame e2 (fun b hb => e9 b (hI b hb) (by simp)) _ _ _ (fun b hb => by cases hb) hr
  · rw [List.append_nil]; exact (List.nodup_append.1 e7).1
  · intro b hb; exact e8 b (by rw [List.append_nil] at hb; simp [hb])
/-- A nil slice where a slice is asked for. -/
theorem ACalls1.nil1 {P : Program} {f : FuncId} {sz : Nat} {rest : List AV} {r : AV} (h : ACalls1 P f (.sl sz false [] :: rest) r) (hb : immL rest = true) : ACalls1 P f (.val (.slice none 0 0) :: rest) r := by
  refine h.args (fun w I B vs hr => ?_) (hb := by simp only [immL, imm, Bool.true_and]; exact hb)
  simp only [RepL] at hr ⊢
  obtain ⟨B₁, B₂, v, vs', rfl, rfl, h1, h2⟩ := hr
  simp only [Rep] at h1
  refine ⟨B₁, B₂, v, vs', rfl, rfl, ?_, h2⟩
  simp only [Rep]
  exact ⟨h1.1, .inl ⟨h1.2, trivial, trivial⟩⟩
/-- Where a number stands first. -/
def idxI (l : List Int) (n : Int) : Int := match l.findIdx? (fun x => x == n) with | some i => i | none => -1
theorem idxI_some {l : List Int} {n : Int} {k : Nat} (hk : k < l.length) (h : nth l k = n) (hp : ∀ i, i < k → nth l i ≠ n) : idxI l n = k := by
  have : l.findIdx? (fun x => x == n) = some k := by
    rw [List.findIdx?_eq_some_iff_getElem]
    refine ⟨hk, by rw [← nth_at hk, h]; simp, fun j hj => ?_⟩
    have := hp j hj
    rw [nth_at (by omega)] at this
    simpa using this
  rw [idxI, this]
theorem idxI_none {l : List Int} {n : Int} (hp : ∀ i, i < l.length → nth l i ≠ n) : idxI l n = -1 := by
  have : l.findIdx? (fun x => x == n) = none := by
    rw [List.findIdx?_eq_none_iff]
    intro x hx
    obtain ⟨i, hi, rfl⟩ := List.mem_iff_getElem.1 hx
    have := hp i hi
    rw [nth_at hi] at this
    simpa using this
  rw [idxI, this]
theorem idxI_iff (l : List Int) (n : Int) : (0 ≤ idxI l n) = (n ∈ l) := by
  apply propext
  unfold idxI
  cases h : l.findIdx? (fun x => x == n) with
  | none =>
    rw [List.findIdx?_eq_none_iff] at h
    constructor
    · intro h2; simp at h2
    · intro h2; have := h n h2; simp at this
  | some i =>
    rw [List.findIdx?_eq_some_iff_getElem] at h
    obtain ⟨hi, h2, _⟩ := h
    simp at h2
    constructor
    · intro _; rw [← h2]; exact List.getElem_mem hi
    · intro _; simp
theorem l01Index_spec (nn : Bool) (l : List Int) (hl : Fits l) (n : Int) : ACalls1 Tryd.prog 96 [.sl 1 nn (ints l), iv n] (iv (idxI l n)) := by
  unfold Fits at hl
  refine walk (fun _ => false) mixed Go.Proofs.Tryd.func96 rfl rfl rfl (by kernel_rfl) rfl (by simp) (by kernel_rfl) ?_
  simp
  refine awp_loop2 [0, 1] [] (fun k : Nat => [(5, iv k)]) (fun _ => []) (fun k => k ≤ l.length ∧ ∀ i, i < k → nth l i ≠ n) (fun k => l.length - k) 0 (weak_mk some (by simp) (by simp) rfl) (by simp) ?_
  rintro k ⟨hk, hp⟩
  by_cases hlt : k < l.length
  · simp [hlt, wrap_id ((k : Int) + 1) (by omega) (by omega)]
    refine ⟨fun h => ?_, fun h => ?_⟩
    · rw [idxI_some hlt h hp]
    · refine Round.mk (k + 1) (weak_mk some (by simp) (by simp) rfl) ⟨hlt, fun i hi => ?_⟩ (by omega)
      by_cases e : i = k
      · subst e; exact h
      · exact hp i (by omega)
  · simp [hlt]
    rw [idxI_none (fun i hi => hp i (by omega))]
theorem l01Has_spec (nn : Bool) (l : List Int) (hl : Fits l) (n : Int) : ACalls1 Tryd.prog 169 [.sl 1 nn (ints l), iv n] (bv (decide (n ∈ l))) := by
  refine walk (fun _ => false) mixed Go.Proofs.Tryd.func169 rfl rfl rfl (by kernel_rfl) rfl (by simp) (by kernel_rfl) ?_
  simp
  refine ⟨_, l01Index_spec nn l hl n, ?_⟩
  simp [idxI_iff]
end Go.AM
