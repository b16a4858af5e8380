/-
  slices.Sort: the library's contract, told of memory that is owned.
-/
import Derived.Test.YtimfhkglmiihgaaDoorSlLay
import Derived.Test.YtimfhkglmiihgaaDoorFnA
import Derived.Test.YtimfhkglmiihgaaDoorFnSi
set_option linter.unusedVariables false
set_option linter.unusedSimpArgs false
set_option maxRecDepth 100000
namespace Go.AM
open Go.Proofs
theorem repL_ints {w : World} {I : Nat → Prop} {hdr : Nat → Option Value} : ∀ {l : List Int} {B : List Nat} {vs : List Value}, RepL w I hdr (ints l) B vs → B = [] ∧ vs = l.map (Value.int .i64)
  | [], B, vs, h => by simpa [ints, RepL] using h
  | x :: l, B, vs, h => by
    rw [ints_cons] at h
    simp only [RepL, Rep] at h
    obtain ⟨B₁, B₂, v, vs', rfl, rfl, ⟨rfl, rfl⟩, h2⟩ := h
    obtain ⟨rfl, rfl⟩ := repL_ints h2
    exact ⟨rfl, rfl⟩
theorem ints_repL {w : World} {I : Nat → Prop} {hdr : Nat → Option Value} : ∀ (l : List Int), RepL w I hdr (ints l) [] (l.map (Value.int .i64))
  | [] => by simp [ints, RepL]
  | x :: l => by
    rw [ints_cons]
    simp only [RepL, Rep]
    exact ⟨[], [], _, _, rfl, rfl, ⟨rfl, rfl⟩, ints_repL l⟩
theorem holds_ints {w : World} {b : Nat} {C : Array Value} {ty : TypeId} {l : List Int} (hC : w.heap[b]? = some (.cells C ty (0, 0))) (h : C.toList.take l.length = l.map (Value.int .i64)) : Go.Sort.Holds (Value.int .i64) w b 0 l.toArray := by
  intro j hj
  have hj' : j < l.length := by simpa using hj
  have h2 : C[j]? = some (Value.int .i64 l[j]) := by
    have : (C.toList.take l.length)[j]? = (l.map (Value.int .i64))[j]? := by rw [h]
    rw [List.getElem?_take, if_pos hj', List.getElem?_map, List.getElem?_eq_getElem hj'] at this
    simpa using this
  have h3 : l.toArray[j]! = l[j] := by simp [hj']
  rw [h3, Nat.zero_add]
  constructor
  · unfold World.cell?
    simp [hC, h2]
  · unfold World.frozen?
    simp [hC]
theorem putCells_take {l m : List Int} {C : Array Value} (hm : m.length = l.length) (h : C.toList.take l.length = l.map (Value.int .i64)) : (Go.Sort.putCells (Value.int .i64) 0 m.toArray C).toList.take m.length = m.map (Value.int .i64) := by
  have hCl : l.length ≤ C.size := by
    have := congrArg List.length h
    simp at this; omega
  apply List.ext_getElem?
  intro i
  rw [List.getElem?_take, List.getElem?_map]
  by_cases hi : i < m.length
  · rw [if_pos hi, List.getElem?_eq_getElem hi]
    unfold Go.Sort.putCells
    simp only [Array.getElem?_toList, Array.getElem?_mapIdx]
    rw [Array.getElem?_eq_getElem (show i < C.size by omega)]
    simp [hi]
  · rw [if_neg hi, List.getElem?_eq_none (by omega)]; rfl
theorem heap_put {w : World} {b n : Nat} {os : Array Obj} {C : Array Value} {ty : TypeId} {f : Nat × Nat} {d : Array Int} (hC : w.heap[b]? = some (.cells C ty f)) :
    (Go.Sort.grow (Go.Sort.putRow (Value.int .i64) (Go.Sort.ahead w n) b 0 d) os).heap[b]? = some (.cells (Go.Sort.putCells (Value.int .i64) 0 d C) ty f) ∧
    (∀ k, k < w.heap.size → k ≠ b → (Go.Sort.grow (Go.Sort.putRow (Value.int .i64) (Go.Sort.ahead w n) b 0 d) os).heap[k]? = w.heap[k]?) ∧ w.heap.size ≤ (Go.Sort.grow (Go.Sort.putRow (Value.int .i64) (Go.Sort.ahead w n) b 0 d) os).heap.size := by
  have hb : b < w.heap.size := (Array.getElem?_eq_some_iff.1 hC).1
  have key : ∀ k, k < w.heap.size → (Go.Sort.grow (Go.Sort.putRow (Value.int .i64) (Go.Sort.ahead w n) b 0 d) os).heap[k]? = (w.heap.modify b (Go.Sort.onCells (Go.Sort.putCells (Value.int .i64) 0 d)))[k]? := by
    intro k hk
    show ((w.heap.modify b (Go.Sort.onCells (Go.Sort.putCells (Value.int .i64) 0 d))) ++ os)[k]? = _
    rw [Array.getElem?_append_left (by simpa using hk)]
  refine ⟨?_, fun k hk hne => ?_, ?_⟩
  · rw [key b hb, Array.getElem?_modify, if_pos rfl, hC]; rfl
  · rw [key k hk, Array.getElem?_modify, if_neg (fun e => hne e.symm)]
  · show _ ≤ ((w.heap.modify b (Go.Sort.onCells (Go.Sort.putCells (Value.int .i64) 0 d))) ++ os).size
    simp
theorem Sort_spec (nn : Bool) (l : List Int) (hl : Fits l) : ACalls2 Tryd.prog 166 [.own 1 nn (ints l)] [.own 1 nn (ints (sortI l))] (.tup []) := by
  unfold Fits at hl
  refine ⟨⟨_, Go.Proofs.Tryd.func166, rfl, by kernel_rfl⟩, fun w I B vs hI hG hr hB hBI => ?_⟩
  simp only [RepL] at hr
  obtain ⟨B₁, B₂, v, vs', rfl, rfl, h1, rfl, rfl⟩ := hr
  simp only [Rep] at h1
  rcases h1 with ⟨rfl, hnil, rfl, rfl⟩ | ⟨b, n, c, C, ty, B', rfl, rfl, hC, hn, hnc, hcC, hcells⟩
  · have : l = [] := by simpa [ints] using hnil
    subst this
    refine (show Calls Tryd.prog 166 #[.slice none 0 0] w _ from AnyM.slices_Sort_int_none Tryd.sortL none 0 w).mono ?_
    rintro e w' ⟨rfl, rfl⟩
    refine ⟨_, _, .tuple #[], I, [], [], ⟨rfl, rfl⟩, rfl, fun _ h => h, hI, fun b h => .inl h, ?_, ?_, List.nodup_nil, fun b h => by simp at h, fun _ _ _ => rfl, Nat.le_refl _, rfl, rfl, rfl⟩
    · simp only [Rep, RepL]; exact ⟨#[], rfl, trivial, rfl⟩
    · simp only [RepL, Rep]
      exact ⟨[], [], _, [], rfl, rfl, .inl ⟨rfl, by simp [sortI_nil], trivial, rfl⟩, rfl, rfl⟩
  · obtain ⟨rfl, hcl⟩ := repL_ints hcells
    rw [ints_length] at hcl hn
    obtain rfl : n = l.length := by omega
    have hb : b < w.heap.size := (Array.getElem?_eq_some_iff.1 hC).1
    refine (show Calls Tryd.prog 166 #[.slice (some ⟨b, 0, none⟩) l.length c] w _ from AnyM.slices_Sort_int Tryd.sortL b 0 c l w (holds_ints hC hcl) hb (by omega)).mono ?_
    rintro e w' ⟨rfl, m, os, rfl⟩
    obtain ⟨p1, p2, p3⟩ := heap_put (n := m) (os := os) (d := (sortI l).toArray) hC
    have hlen : (sortI l).length = l.length := sortI_length l
    refine ⟨_, _, .tuple #[], I, [], [b], ⟨rfl, rfl⟩, rfl, fun _ h => h, fun x h => Nat.lt_of_lt_of_le (hI x h) p3, fun b h => .inl h, ?_, ?_, by simp, fun x h => ?_, fun x hx hxB => p2 x hx (by simpa using hxB), p3, rfl, rfl, rfl⟩
    · simp only [Rep, RepL]; exact ⟨#[], rfl, trivial, rfl⟩
    · simp only [RepL, Rep]
      refine ⟨[b], [], _, [], rfl, rfl, .inr ⟨b, l.length, c, _, ty, [], rfl, rfl, p1, by simp [hlen], hnc, ?_, ?_⟩, rfl, rfl⟩
      · simpa [Go.Sort.putCells] using hcC
      · rw [ints_length, putCells_take hlen hcl]; exact ints_repL _
    · simp only [List.nil_append, List.mem_singleton] at h
      subst h
      exact ⟨hBI _ (by simp), .inl (by simp)⟩
end Go.AM
