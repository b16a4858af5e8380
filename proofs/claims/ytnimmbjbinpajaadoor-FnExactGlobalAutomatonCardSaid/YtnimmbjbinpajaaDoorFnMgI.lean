/-
  Several texts in one: FnSi FnSo FnMa FnMb.
-/
import Derived.Test.YtnimmbjbinpajaaDoorFnMgA
import Derived.Test.YtnimmbjbinpajaaDoorSlLay
import Derived.Test.YtnimmbjbinpajaaDoorFnM
set_option linter.unusedVariables false
set_option linter.unusedSimpArgs false
set_option linter.unusedSectionVars false
set_option maxRecDepth 100000
set_option maxHeartbeats 1600000
namespace Go.AM
open Go.Proofs
def sortI (l : List Int) : List Int := l.mergeSort fun x y => decide (x ≤ y)
theorem sortI_perm (l : List Int) : (sortI l).Perm l := List.mergeSort_perm l _
theorem sortI_sorted (l : List Int) : (sortI l).Pairwise (· ≤ ·) := by
  have := List.pairwise_mergeSort (le := fun x y : Int => decide (x ≤ y)) (fun a b c h1 h2 => by simp at *; omega) (fun a b => by simp; omega) l
  exact this.imp fun h => by simpa using h
theorem sortI_eq {l m : List Int} (h : l.Perm m) (hm : m.Pairwise (· ≤ ·)) : sortI l = m :=
  List.Perm.eq_of_pairwise (le := (· ≤ ·)) (fun a b _ _ h1 h2 => Int.le_antisymm h1 h2) (sortI_sorted l) hm ((sortI_perm l).trans h)
@[simp] theorem sortI_length (l : List Int) : (sortI l).length = l.length := (sortI_perm l).length_eq
theorem sortI_mem {l : List Int} {y : Int} : y ∈ sortI l ↔ y ∈ l := (sortI_perm l).mem_iff
theorem sortI_nodup {l : List Int} (h : l.Nodup) : (sortI l).Nodup := (sortI_perm l).nodup_iff.2 h
/-- One more number, in its place. -/
def insI (n : Int) : List Int → List Int
  | [] => [n]
  | y :: l => if y < n then y :: insI n l else n :: y :: l
theorem insI_perm (n : Int) : ∀ l, (insI n l).Perm (n :: l)
  | [] => .refl _
  | y :: l => by
    unfold insI; split
    · exact ((insI_perm n l).cons y).trans (.swap n y l)
    · exact .refl _
theorem insI_sorted {n : Int} : ∀ {l : List Int}, l.Pairwise (· ≤ ·) → (insI n l).Pairwise (· ≤ ·)
  | [], _ => by simp [insI]
  | y :: l, h => by
    rw [List.pairwise_cons] at h
    unfold insI; split
    · rename_i hlt
      rw [List.pairwise_cons]
      refine ⟨fun a ha => ?_, insI_sorted h.2⟩
      have := (insI_perm n l).mem_iff.1 ha
      rcases List.mem_cons.1 this with rfl | ha
      · omega
      · exact h.1 a ha
    · rename_i hlt
      rw [List.pairwise_cons, List.pairwise_cons]
      refine ⟨fun a ha => ?_, h⟩
      rcases List.mem_cons.1 ha with rfl | ha
      · omega
      · have := h.1 a ha; omega
theorem sortI_snoc (l : List Int) (n : Int) : insI n (sortI l) = sortI (l ++ [n]) := by
  refine (sortI_eq ?_ (insI_sorted (sortI_sorted l))).symm
  refine .trans ?_ (insI_perm n (sortI l)).symm
  exact (List.perm_append_comm (l₁ := l) (l₂ := [n])).trans ((sortI_perm l).symm.cons n)
theorem sortI_nil : sortI [] = [] := by simp [sortI]
/-- How many stand ahead of a number. -/
def insAt (n : Int) : List Int → Nat
  | [] => 0
  | y :: l => if y < n then insAt n l + 1 else 0
theorem insAt_le (n : Int) : ∀ l, insAt n l ≤ l.length
  | [] => Nat.le_refl _
  | y :: l => by
    unfold insAt; split
    · have := insAt_le n l; simp; exact this
    · simp
theorem insAt_before {n : Int} : ∀ {l : List Int} {i : Nat}, i < insAt n l → nth l i < n
  | [], i, h => by simp [insAt] at h
  | y :: l, i, h => by
    unfold insAt at h
    split at h
    · cases i with
      | zero => simpa [nth]
      | succ i => have := insAt_before (n := n) (l := l) (i := i) (by omega); simpa [nth] using this
    · omega
theorem insAt_at {n : Int} : ∀ {l : List Int}, insAt n l < l.length → ¬ nth l (insAt n l) < n
  | [], h => by simp at h
  | y :: l, h => by
    unfold insAt at h ⊢
    split
    · rename_i hlt
      rw [if_pos hlt] at h
      have := insAt_at (l := l) (by simpa using h)
      simpa [nth] using this
    · rename_i hlt
      simpa [nth] using hlt
theorem insAt_eq {n : Int} {l : List Int} {k : Nat} (hk : k ≤ l.length) (h1 : ∀ i, i < k → nth l i < n) (h2 : k < l.length → ¬ nth l k < n) : k = insAt n l := by
  have h3 := insAt_le n l
  rcases Nat.lt_trichotomy k (insAt n l) with h | h | h
  · exact absurd (insAt_before h) (h2 (by omega))
  · exact h
  · exact absurd (h1 _ h) (insAt_at (by omega))
theorem insI_eq (n : Int) : ∀ l, insI n l = l.take (insAt n l) ++ n :: l.drop (insAt n l)
  | [] => rfl
  | y :: l => by
    unfold insI insAt; split
    · rw [insI_eq n l]; rfl
    · rfl
theorem repL_ints {w : World} {I : Nat → Prop} {hdr : Nat → Option Value} : ∀ {l : List Int} {B : List Nat} {vs : List Value}, RepL w I hdr (ints l) B vs → B = [] ∧ vs = l.map (Value.int .i64)
  | [], B, vs, h => by simpa [ints, RepL] using h
  | x :: l, B, vs, h => by
    rw [ints_cons] at h
    simp only [RepL, Rep] at h
    obtain ⟨B₁, B₂, v, vs', rfl, rfl, ⟨rfl, rfl⟩, h2⟩ := h
    obtain ⟨rfl, rfl⟩ := repL_ints h2
    exact ⟨rfl, rfl⟩
theorem ints_repL {w : World} {I : Nat → Prop} {hdr : Nat → Option Value} : ∀ (l : List Int), RepL w I hdr (ints l) [] (l.map (Value.int .i64))
  | [] => by simp [ints, RepL]
  | x :: l => by
    rw [ints_cons]
    simp only [RepL, Rep]
    exact ⟨[], [], _, _, rfl, rfl, ⟨rfl, rfl⟩, ints_repL l⟩
theorem holds_ints {w : World} {b : Nat} {C : Array Value} {ty : TypeId} {l : List Int} (hRow : Row w b C ty) (h : C.toList.take l.length = l.map (Value.int .i64)) : Go.Sort.Holds (Value.int .i64) w b 0 l.toArray := by
  intro j hj
  have hj' : j < l.length := by simpa using hj
  have hjC : j < C.size := by
    have := congrArg List.length h
    simp at this; omega
  have h2 : C[j]? = some (Value.int .i64 l[j]) := by
    have : (C.toList.take l.length)[j]? = (l.map (Value.int .i64))[j]? := by rw [h]
    rw [List.getElem?_take, if_pos hj', List.getElem?_map, List.getElem?_eq_getElem hj'] at this
    simpa using this
  have h3 : l.toArray[j]! = l[j] := by simp [hj']
  rw [h3, Nat.zero_add]
  constructor
  · obtain ⟨zf, hC, _⟩ := hRow
    unfold World.cell?
    simp [hC, h2]
  · exact hRow.frozen hjC
theorem putCells_take {l m : List Int} {C : Array Value} (hm : m.length = l.length) (h : C.toList.take l.length = l.map (Value.int .i64)) : (Go.Sort.putCells (Value.int .i64) 0 m.toArray C).toList.take m.length = m.map (Value.int .i64) := by
  have hCl : l.length ≤ C.size := by
    have := congrArg List.length h
    simp at this; omega
  apply List.ext_getElem?
  intro i
  rw [List.getElem?_take, List.getElem?_map]
  by_cases hi : i < m.length
  · rw [if_pos hi, List.getElem?_eq_getElem hi]
    unfold Go.Sort.putCells
    simp only [Array.getElem?_toList, Array.getElem?_mapIdx]
    rw [Array.getElem?_eq_getElem (show i < C.size by omega)]
    simp [hi]
  · rw [if_neg hi, List.getElem?_eq_none (by omega)]; rfl
theorem heap_put {w : World} {b n : Nat} {os : Array Obj} {C : Array Value} {ty : TypeId} {f : Nat × Nat} {d : Array Int} (hC : w.heap[b]? = some (.cells C ty f)) :
    (Go.Sort.grow (Go.Sort.putRow (Value.int .i64) (Go.Sort.ahead w n) b 0 d) os).heap[b]? = some (.cells (Go.Sort.putCells (Value.int .i64) 0 d C) ty f) ∧
    (∀ k, k < w.heap.size → k ≠ b → (Go.Sort.grow (Go.Sort.putRow (Value.int .i64) (Go.Sort.ahead w n) b 0 d) os).heap[k]? = w.heap[k]?) ∧ w.heap.size ≤ (Go.Sort.grow (Go.Sort.putRow (Value.int .i64) (Go.Sort.ahead w n) b 0 d) os).heap.size := by
  have hb : b < w.heap.size := (Array.getElem?_eq_some_iff.1 hC).1
  have key : ∀ k, k < w.heap.size → (Go.Sort.grow (Go.Sort.putRow (Value.int .i64) (Go.Sort.ahead w n) b 0 d) os).heap[k]? = (w.heap.modify b (Go.Sort.onCells (Go.Sort.putCells (Value.int .i64) 0 d)))[k]? := by
    intro k hk
    show ((w.heap.modify b (Go.Sort.onCells (Go.Sort.putCells (Value.int .i64) 0 d))) ++ os)[k]? = _
    rw [Array.getElem?_append_left (by simpa using hk)]
  refine ⟨?_, fun k hk hne => ?_, ?_⟩
  · rw [key b hb, Array.getElem?_modify, if_pos rfl, hC]; rfl
  · rw [key k hk, Array.getElem?_modify, if_neg (fun e => hne e.symm)]
  · show _ ≤ ((w.heap.modify b (Go.Sort.onCells (Go.Sort.putCells (Value.int .i64) 0 d))) ++ os).size
    simp
theorem Sort_spec (nn : Bool) (l : List Int) (hl : Fits l) : ACalls2 Tryd.prog 166 [.own 1 nn (ints l)] [.own 1 nn (ints (sortI l))] (.tup []) := by
  unfold Fits at hl
  refine ⟨⟨_, Go.Proofs.Tryd.func166, rfl, by kernel_rfl⟩, fun w I B vs hI hG hr hB hBI => ?_⟩
  simp only [RepL] at hr
  obtain ⟨B₁, B₂, v, vs', rfl, rfl, h1, rfl, rfl⟩ := hr
  simp only [Rep] at h1
  rcases h1 with ⟨rfl, hnil, rfl, rfl⟩ | ⟨b, n, c, C, ty, B', rfl, rfl, hC, hn, hnc, hcC, hcells⟩
  · have : l = [] := by simpa [ints] using hnil
    subst this
    refine (show Calls Tryd.prog 166 #[.slice none 0 0] w _ from AnyM.slices_Sort_int_none Tryd.sortL none 0 w).mono ?_
    rintro e w' ⟨rfl, rfl⟩
    refine ⟨_, _, .tuple #[], I, [], [], ⟨rfl, rfl⟩, rfl, fun _ h => h, hI, fun b h => .inl h, ?_, ?_, List.nodup_nil, fun b h => by simp at h, fun _ _ _ => rfl, Nat.le_refl _, rfl, rfl, .refl _⟩
    · simp only [Rep, RepL]; exact ⟨#[], rfl, trivial, rfl⟩
    · simp only [RepL, Rep]
      exact ⟨[], [], _, [], rfl, rfl, .inl ⟨rfl, by simp [sortI_nil], trivial, rfl⟩, rfl, rfl⟩
  · obtain ⟨rfl, hcl⟩ := repL_ints hcells
    rw [ints_length] at hcl hn
    obtain rfl : n = l.length := by omega
    have hb : b < w.heap.size := hC.lt
    have hRow := hC
    obtain ⟨zf, hC, hzf⟩ := hC
    refine (show Calls Tryd.prog 166 #[.slice (some ⟨b, 0, none⟩) l.length c] w _ from AnyM.slices_Sort_int Tryd.sortL b 0 c l w (holds_ints hRow hcl) hb (by omega)).mono ?_
    rintro e w' ⟨rfl, m, os, rfl⟩
    obtain ⟨p1, p2, p3⟩ := heap_put (n := m) (os := os) (d := (sortI l).toArray) hC
    have hlen : (sortI l).length = l.length := sortI_length l
    refine ⟨_, _, .tuple #[], I, [], [b], ⟨rfl, rfl⟩, rfl, fun _ h => h, fun x h => Nat.lt_of_lt_of_le (hI x h) p3, fun b h => .inl h, ?_, ?_, by simp, fun x h => ?_, fun x hx hxB => p2 x hx (by simpa using hxB), p3, rfl, rfl, rfl, Nat.le_add_right _ _⟩
    · simp only [Rep, RepL]; exact ⟨#[], rfl, trivial, rfl⟩
    · simp only [RepL, Rep]
      refine ⟨[b], [], _, [], rfl, rfl, .inr ⟨b, l.length, c, _, ty, [], rfl, rfl, ⟨zf, p1, by simpa [Go.Sort.putCells] using hzf⟩, by simp [hlen], hnc, ?_, ?_⟩, rfl, rfl⟩
      · simpa [Go.Sort.putCells] using hcC
      · rw [ints_length, putCells_take hlen hcl]; exact ints_repL _
    · simp only [List.nil_append, List.mem_singleton] at h
      subst h
      exact ⟨hBI _ (by simp), .inl (by simp)⟩
abbrev BL := List (Int × List Int)
def keys (L : BL) : List Int := L.map Prod.fst
def runs (L : BL) : List (List Int) := L.map Prod.snd
@[simp] theorem keys_length (L : BL) : (keys L).length = L.length := by simp [keys]
@[simp] theorem runs_length (L : BL) : (runs L).length = L.length := by simp [runs]
theorem keys_snoc (L : BL) (p : Int × List Int) : keys (L ++ [p]) = keys L ++ [p.1] := by simp [keys]
theorem runs_snoc (L : BL) (p : Int × List Int) : runs (L ++ [p]) = runs L ++ [p.2] := by simp [runs]
/-- One more transition, from a marking with its run. -/
def stA (x : NetV) (p : Int × List Int) (L : BL) (a : Nat) : BL :=
  if fireBad x p.1 a then L else if fireTo x p.1 a ∈ keys L then L else if L.length ≤ 256 then L ++ [(fireTo x p.1 a, p.2 ++ [(a : Int)])] else L
def foA (x : NetV) (p : Int × List Int) (L : BL) (k : Nat) : BL := (List.range k).foldl (stA x p) L
theorem foA_succ (x : NetV) (p : Int × List Int) (L : BL) (k : Nat) : foA x p L (k + 1) = stA x p (foA x p L k) k := by
  unfold foA; rw [List.range_succ, List.foldl_append]; rfl
def blAt (L : BL) (i : Nat) : Int × List Int := L.getD i (0, [])
def procA (x : NetV) (L : BL) (i : Nat) : BL := foA x (blAt L i) L x.pre.length
def bfsA (x : NetV) : Nat → Nat → BL → BL
  | 0, _, L => L
  | f + 1, i, L => if i < L.length then bfsA x f (i + 1) (procA x L i) else L
def reachV (x : NetV) : BL := bfsA x 300 0 [(x.s, [])]
theorem stA_ext (x : NetV) (p : Int × List Int) (L : BL) (a : Nat) : ∃ t, stA x p L a = L ++ t := by
  unfold stA
  split
  · exact ⟨[], by simp⟩
  · split
    · exact ⟨[], by simp⟩
    · split
      · exact ⟨_, rfl⟩
      · exact ⟨[], by simp⟩
theorem foA_ext (x : NetV) (p : Int × List Int) (L : BL) : ∀ k, ∃ t, foA x p L k = L ++ t
  | 0 => ⟨[], by simp [foA]⟩
  | k + 1 => by
    obtain ⟨t, ht⟩ := foA_ext x p L k
    obtain ⟨t', ht'⟩ := stA_ext x p (foA x p L k) k
    exact ⟨t ++ t', by rw [foA_succ, ht', ht, List.append_assoc]⟩
theorem blAt_at {L : BL} {i : Nat} (h : i < L.length) : blAt L i = L[i] := by simp [blAt, h]
theorem blAt_ext {L t : BL} {i : Nat} (h : i < L.length) : blAt (L ++ t) i = blAt L i := by
  rw [blAt_at (by simp; omega), blAt_at h, List.getElem_append_left h]
theorem blAt_mem {L : BL} {i : Nat} (h : i < L.length) : blAt L i ∈ L := by rw [blAt_at h]; exact List.getElem_mem h
theorem keys_nth {L : BL} {i : Nat} (h : i < L.length) : nth (keys L) i = (blAt L i).1 := by
  rw [nth_at (by simpa using h), blAt_at h]; simp [keys]
theorem runs_nth {L : BL} {i : Nat} (h : i < L.length) : nthR (runs L) i = (blAt L i).2 := by
  rw [nthR_at (by simpa using h), blAt_at h]; simp [runs]
/-- What is known of the list: at most 257, no marking twice, all of them masks, runs no longer than so much. -/
structure BOk (x : NetV) (r : Nat) (L : BL) : Prop where
  le : L.length ≤ 257
  nd : (keys L).Nodup
  ms : ∀ p ∈ L, M p.1 ∧ p.1 ≤ full x.p
  rl : ∀ p ∈ L, p.2.length ≤ r
  ro : ∀ p ∈ L, ∀ y ∈ p.2, 0 ≤ y ∧ y ≤ 7
theorem or_le_full {n : Nat} (hn : n < 63) {a b : Int} (ha : M a) (hb : M b) (h1 : a ≤ full n) (h2 : b ≤ full n) : ibits .or .i64 a b ≤ full n :=
  le_full hn (M_or ha hb) fun i hi => by rw [tb_or ha hb, tb_of_le hn ha.1 h1 hi, tb_of_le hn hb.1 h2 hi]; rfl
theorem andNot_le_full {n : Nat} (hn : n < 63) {a b : Int} (ha : M a) (hb : M b) (h1 : a ≤ full n) : ibits .andNot .i64 a b ≤ full n :=
  le_full hn (M_andNot ha hb) fun i hi => by rw [tb_andNot ha hb, tb_of_le hn ha.1 h1 hi]; rfl
theorem fireTo_ok {x : NetV} (hx : isNet x.p x.pre x.post x.s = true) {m : Int} (hm : M m) (hmf : m ≤ full x.p) {a : Nat} (ha : a < x.pre.length) : M (fireTo x m a) ∧ fireTo x m a ≤ full x.p := by
  have hl := isNet_len hx
  obtain ⟨n, hn⟩ := Int.eq_ofNat_of_zero_le hl.2.2.1
  have hn12 : n ≤ 12 := by omega
  have h1 := isNet_masks hx _ (List.mem_append_left _ (nth_mem ha))
  have h2 := isNet_masks hx _ (List.mem_append_right _ (nth_mem (show a < x.post.length by omega)))
  have m1 := isNet_M hx _ (List.mem_append_left _ (nth_mem ha))
  have m2 := isNet_M hx _ (List.mem_append_right _ (nth_mem (show a < x.post.length by omega)))
  rw [hn] at h1 h2 hmf ⊢
  exact ⟨M_or (M_andNot hm m1) m2, or_le_full (by omega) (M_andNot hm m1) m2 (andNot_le_full (by omega) hm m1 hmf) h2.2⟩
theorem stA_ok {x : NetV} (hx : isNet x.p x.pre x.post x.s = true) {p : Int × List Int} {r : Nat} (hp : M p.1 ∧ p.1 ≤ full x.p) (hpr : p.2.length < r) (hpo : ∀ y ∈ p.2, 0 ≤ y ∧ y ≤ 7) {L : BL} (h : BOk x r L) {a : Nat} (ha : a < x.pre.length) : BOk x r (stA x p L a) := by
  have hl := isNet_len hx
  unfold stA
  split
  · exact h
  · split
    · exact h
    · rename_i hnot
      split
      · rename_i hlen
        refine ⟨by simp; omega, ?_, fun q hq => ?_, fun q hq => ?_, fun q hq => ?_⟩
        · rw [keys_snoc]
          exact List.nodup_append.2 ⟨h.nd, by simp, fun u hu v hv e => by simp at hv; subst e; rw [hv] at hu; exact hnot hu⟩
        · simp only [List.mem_append, List.mem_singleton] at hq
          rcases hq with hq | rfl
          · exact h.ms q hq
          · exact fireTo_ok hx hp.1 hp.2 ha
        · simp only [List.mem_append, List.mem_singleton] at hq
          rcases hq with hq | rfl
          · exact h.rl q hq
          · simp; omega
        · simp only [List.mem_append, List.mem_singleton] at hq
          rcases hq with hq | rfl
          · exact h.ro q hq
          · intro y hy
            simp only [List.mem_append, List.mem_singleton] at hy
            rcases hy with hy | rfl
            · exact hpo y hy
            · omega
      · exact h
theorem BOk.mono {x : NetV} {r s : Nat} {L : BL} (h : BOk x r L) (hrs : r ≤ s) : BOk x s L := ⟨h.le, h.nd, h.ms, fun p hp => Nat.le_trans (h.rl p hp) hrs, h.ro⟩
theorem foA_ok {x : NetV} (hx : isNet x.p x.pre x.post x.s = true) {r : Nat} {L : BL} (h : BOk x r L) {i : Nat} (hi : i < L.length) : ∀ k, k ≤ x.pre.length → BOk x (r + 1) (foA x (blAt L i) L k)
  | 0, _ => by simp only [foA, List.range_zero, List.foldl_nil]; exact h.mono (by omega)
  | k + 1, hk => by
    rw [foA_succ]
    have hm := blAt_mem hi
    exact stA_ok hx (h.ms _ hm) (by have := h.rl _ hm; omega) (h.ro _ hm) (foA_ok hx h hi k (by omega)) (by omega)
theorem bok_start {x : NetV} (hx : isNet x.p x.pre x.post x.s = true) : BOk x 0 [(x.s, [])] := by
  have h0 : 0 ≤ x.s ∧ x.s ≤ full x.p := by
    unfold isNet at hx
    simp at hx; omega
  refine ⟨by simp, by simp [keys], fun p hp => ?_, fun p hp => ?_, fun p hp => ?_⟩
  · simp at hp; subst hp; exact ⟨mark_M hx h0.1 h0.2, h0.2⟩
  · simp at hp; subst hp; simp
  · simp at hp; subst hp; simp
theorem bfsA_ok {x : NetV} (hx : isNet x.p x.pre x.post x.s = true) : ∀ (f i : Nat) (L : BL), BOk x i L → (∃ r, BOk x r (bfsA x f i L)) ∧ ∃ t, bfsA x f i L = L ++ t
  | 0, i, L, h => ⟨⟨i, h⟩, [], by simp [bfsA]⟩
  | f + 1, i, L, h => by
    unfold bfsA
    split
    · rename_i hi
      obtain ⟨h1, t, ht⟩ := bfsA_ok hx f (i + 1) (procA x L i) (foA_ok hx h hi _ (Nat.le_refl _))
      obtain ⟨t', ht'⟩ := foA_ext x (blAt L i) L x.pre.length
      exact ⟨h1, t' ++ t, by rw [ht, procA, ht', List.append_assoc]⟩
    · exact ⟨⟨i, h⟩, [], by simp⟩
theorem bfsA_end {x : NetV} {f i : Nat} {L : BL} (h : ¬ i < L.length) : bfsA x f i L = L := by
  cases f with
  | zero => rfl
  | succ f => unfold bfsA; rw [if_neg h]
theorem bfsA_go {x : NetV} {i : Nat} {L : BL} (h : i < L.length) (hi : i < 300) : bfsA x (300 - i) i L = bfsA x (300 - (i + 1)) (i + 1) (procA x L i) := by
  rw [show 300 - i = (300 - (i + 1)) + 1 by omega]
  rw [bfsA, if_pos h]
/-- The same without the runs, without the bound. -/
def stM (x : NetV) (c : Int) (m : List Int) (a : Nat) : List Int := if fireBad x c a then m else if fireTo x c a ∈ m then m else m ++ [fireTo x c a]
def foM (x : NetV) (c : Int) (m : List Int) (k : Nat) : List Int := (List.range k).foldl (stM x c) m
theorem foM_succ (x : NetV) (c : Int) (m : List Int) (k : Nat) : foM x c m (k + 1) = stM x c (foM x c m k) k := by
  unfold foM; rw [List.range_succ, List.foldl_append]; rfl
theorem stM_ext (x : NetV) (c : Int) (m : List Int) (a : Nat) : ∃ t, stM x c m a = m ++ t ∧ t.length ≤ 1 := by
  unfold stM
  split
  · exact ⟨[], by simp⟩
  · split
    · exact ⟨[], by simp⟩
    · exact ⟨_, rfl, by simp⟩
theorem foM_ext (x : NetV) (c : Int) (m : List Int) : ∀ k, ∃ t, foM x c m k = m ++ t ∧ t.length ≤ k
  | 0 => ⟨[], by simp [foM]⟩
  | k + 1 => by
    obtain ⟨t, ht, h1⟩ := foM_ext x c m k
    obtain ⟨t', ht', h2⟩ := stM_ext x c (foM x c m k) k
    exact ⟨t ++ t', by rw [foM_succ, ht', ht, List.append_assoc], by simp; omega⟩
theorem stAM {x : NetV} {p : Int × List Int} {L : BL} {m : List Int} (hle : L.length ≤ 257) (h : keys L = m.take 257) (a : Nat) : keys (stA x p L a) = (stM x p.1 m a).take 257 := by
  have hlen : L.length = min 257 m.length := by rw [← keys_length L, h, List.length_take]
  unfold stA stM
  by_cases hb : fireBad x p.1 a = true
  · rw [if_pos hb, if_pos hb]; exact h
  · rw [if_neg hb, if_neg hb]
    by_cases hm : fireTo x p.1 a ∈ m
    · rw [if_pos hm]
      by_cases hk : fireTo x p.1 a ∈ keys L
      · rw [if_pos hk]; exact h
      · rw [if_neg hk]
        have : ¬ L.length ≤ 256 := by
          intro h3
          rw [h, List.take_of_length_le (by omega)] at hk
          exact hk hm
        rw [if_neg this]; exact h
    · rw [if_neg hm]
      have hk : ¬ fireTo x p.1 a ∈ keys L := fun hk => hm (by rw [h] at hk; exact List.mem_of_mem_take hk)
      rw [if_neg hk]
      by_cases h3 : L.length ≤ 256
      · rw [if_pos h3, keys_snoc, h, List.take_of_length_le (by omega), List.take_of_length_le (by simp; omega)]
      · rw [if_neg h3, h, List.take_append_of_le_length (by omega)]
theorem foAM {x : NetV} (hx : isNet x.p x.pre x.post x.s = true) {r i : Nat} {L : BL} (hb : BOk x r L) (hi : i < L.length) {m : List Int} (h : keys L = m.take 257) : ∀ k, k ≤ x.pre.length → keys (foA x (blAt L i) L k) = (foM x (blAt L i).1 m k).take 257
  | 0, _ => h
  | k + 1, hk => by
    rw [foA_succ, foM_succ]
    exact stAM (foA_ok hx hb hi k (by omega)).le (foAM hx hb hi h k (by omega)) k
/-- Once there are too many, there are too many at the end. -/
theorem reach_big {x : NetV} (hx : isNet x.p x.pre x.post x.s = true) {f i : Nat} {L : BL} (hb : BOk x i L) (h : L.length = 257) : (bfsA x f i L).length = 257 := by
  obtain ⟨⟨r, h1⟩, t, ht⟩ := bfsA_ok hx f i L hb
  have := h1.le
  rw [ht, List.length_append] at this ⊢
  omega
theorem reach_ok {x : NetV} (hx : isNet x.p x.pre x.post x.s = true) : ∃ r, BOk x r (reachV x) := (bfsA_ok hx 300 0 _ (bok_start hx)).1
def markingsOfV (x : NetV) : List Int × Int := if isNet x.p x.pre x.post x.s then (if (reachV x).length ≤ 256 then (sortI (keys (reachV x)), 0) else ([], 3)) else ([], 1)
theorem MarkingsOf_fits (x : NetV) (hx : NetOk x) : ListOk (markingsOfV x).1 := by
  unfold markingsOfV
  split
  · rename_i h
    obtain ⟨r, hr⟩ := reach_ok h
    split
    · rename_i h2
      refine ⟨by simp [Fits]; omega, fun y hy => ?_⟩
      rw [sortI_mem] at hy
      obtain ⟨p, hp, rfl⟩ := List.mem_map.1 hy
      have := (hr.ms p hp).1
      unfold M at this
      unfold I64; omega
    · simp [ListOk, Fits]
  · simp [ListOk, Fits]
/-- A map that tells membership. -/
def SeenOk (l : List Int) (m : List (Int × Value)) : Prop := ∀ d, m.lookup d = if d ∈ l then some (.bool true) else none
theorem seen_put {l : List Int} {m : List (Int × Value)} (h : SeenOk l m) (d : Int) : SeenOk (l ++ [d]) (putI d (.bool true) m) := by
  intro y
  rw [lookup_putI]
  by_cases e : y = d
  · subst e; simp
  · rw [if_neg e, h y]
    by_cases hy : y ∈ l <;> simp [hy, e]
theorem seen_one (d : Int) : SeenOk [d] [(d, .bool true)] := by
  intro y
  by_cases e : y = d
  · subst e; simp
  · have : (y == d) = false := by simpa using e
    simp [List.lookup, this, e]
theorem markings_spec (n1 n2 : Bool) (x : NetV) (hx : isNet x.p x.pre x.post x.s = true) : ACalls1 Tryd.prog 143 [netSl n1 n2 x] (.tup [.own 1 false (ints (markingsOfV x).1), iv (markingsOfV x).2]) := by
  have hl := isNet_len hx
  refine walk (fun t => t == 1 || t == 2057) mixed Go.Proofs.Tryd.func143 rfl rfl rfl (by kernel_rfl) rfl (by simp) (by kernel_rfl) ?_
  simp
  repeat (rw [exE_eq]; simp)
  repeat (refine And.intro (by first | omega | exact ⟨by kernel_rfl, by kernel_rfl⟩) ?_)
  refine awp_loop2 [1, 5] [] (fun s : Nat × BL × List (Int × Value) => [(6, iv s.1), (4, .ref 100)]) (fun s => [(100, .own 1 true (ints (keys s.2.1))), (13, .mp (mI s.2.2))]) (fun s => s.1 ≤ s.2.1.length ∧ s.2.1.length ≤ 256 ∧ BOk x s.1 s.2.1 ∧ bfsA x (300 - s.1) s.1 s.2.1 = reachV x ∧ SeenOk (keys s.2.1) s.2.2) (fun s => 300 - s.1) (0, [(x.s, [])], [(x.s, .bool true)]) (weak_mk (fun t => if t = 100 then some 12 else some t) (by simp) (by simp [keys, mI, ints]) rfl) ⟨by simp, by simp, bok_start hx, rfl, seen_one _⟩ ?_
  rintro ⟨i, L, m⟩ ⟨hi, hle, hb, hr, hs⟩
  simp only at hi hle hb hr hs
  have hkl : (keys L).length = L.length := keys_length L
  have hV : markingsOfV x = if (reachV x).length ≤ 256 then (sortI (keys (reachV x)), 0) else ([], 3) := by unfold markingsOfV; rw [if_pos hx]
  by_cases hlt : i < L.length
  · have hki := keys_nth hlt
    have hmi := hb.ms _ (blAt_mem hlt)
    have hproc : ∀ k, k ≤ x.pre.length → keys (foA x (blAt L i) L k) = (foM x (blAt L i).1 (keys L) k).take 257 := fun k hk => foAM hx hb hlt (by rw [List.take_of_length_le (by omega)]) k hk
    have hpok := foA_ok hx hb hlt x.pre.length (Nat.le_refl _)
    have hgo := bfsA_go (x := x) hlt (by omega)
    unfold procA at hgo
    generalize hA : foA x (blAt L i) L x.pre.length = A at *
    generalize (blAt L i).1 = c at *
    simp [hlt]
    refine ⟨_, length_spec _ _ (by unfold Fits; omega), ?_⟩
    simp
    refine awp_loop2 [1, 5, 6, 25] [] (fun s : Nat × List (Int × Value) => [(26, iv s.1), (4, .ref 100)]) (fun s => [(100, .own 1 true (ints (foM x c (keys L) s.1))), (13, .mp (mI s.2))]) (fun s => s.1 ≤ x.pre.length ∧ SeenOk (foM x c (keys L) s.1) s.2) (fun s => x.pre.length - s.1) (0, m) (weak_mk some (by simp) (by simp [foM]) rfl) ⟨by simp, hs⟩ ?_
    rintro ⟨a, m'⟩ ⟨ha, hs'⟩
    simp only at ha hs'
    obtain ⟨t, ht, htl⟩ := foM_ext x c (keys L) a
    have hfl : (foM x c (keys L) a).length ≤ 264 := by rw [ht, List.length_append]; omega
    have hil : i < (foM x c (keys L) a).length := by rw [ht, List.length_append]; omega
    have hnt : nth (foM x c (keys L) a) i = c := by
      rw [nth_at hil]
      simp only [ht]
      rw [List.getElem_append_left (by omega), ← nth_at (by omega)]
      exact hki
    by_cases hal : a < x.pre.length
    · have hst := foM_succ x c (keys L) a
      unfold stM at hst
      simp [hal, hil, hnt, show i + 1 ≤ (foM x c (keys L) a).length from hil]
      repeat (rw [exE_eq]; simp [hal, hil, hnt, show i + 1 ≤ (foM x c (keys L) a).length from hil])
      refine ⟨_, fire_spec _ _ x c a hal (by omega), ?_⟩
      cases hfb : fireBad x c a
      · have hsd := hs' (fireTo x c a)
        rw [hfb] at hst
        by_cases hmem : fireTo x c a ∈ foM x c (keys L) a
        · rw [if_pos hmem] at hsd
          rw [if_neg (by simp), if_pos hmem] at hst
          simp [hsd, wrap_id ((a : Int) + 1) (by omega) (by omega)]
          exact Round.mk (a + 1, m') (weak_mk some (by simp) (by simp [hst]) rfl) ⟨hal, by rw [hst]; exact hs'⟩ (by simp only; omega)
        · rw [if_neg hmem] at hsd
          rw [if_neg (by simp), if_neg hmem] at hst
          simp [hsd, wrap_id ((a : Int) + 1) (by omega) (by omega)]
          repeat (refine And.intro (by omega) ?_)
          exact Round.mk (a + 1, putI (fireTo x c a) (.bool true) m') (weak_mk (fun t => if t = 100 then some 51 else some t) (by simp) (by simp [hst]) rfl) ⟨hal, by rw [hst]; exact seen_put hs' _⟩ (by simp only; omega)
      · rw [hfb, if_pos rfl] at hst
        simp [wrap_id ((a : Int) + 1) (by omega) (by omega)]
        exact Round.mk (a + 1, m') (weak_mk some (by simp) (by simp [hst]) rfl) ⟨hal, by rw [hst]; exact hs'⟩ (by simp only; omega)
    · obtain rfl : a = x.pre.length := by omega
      have hpk := hproc x.pre.length (Nat.le_refl _)
      rw [hA] at hpk
      have hAl : A.length = min 257 (foM x c (keys L) x.pre.length).length := by rw [← keys_length A, hpk, List.length_take]
      by_cases hbig : 256 < (foM x c (keys L) x.pre.length).length
      · have h257 : (reachV x).length = 257 := by
          rw [← hr, hgo]
          exact reach_big hx hpok (by omega)
        rw [if_neg (by omega)] at hV
        simp [hV, show ¬ ((foM x c (keys L) x.pre.length).length : Int) ≤ 256 by omega, show (256 : Int) < ((foM x c (keys L) x.pre.length).length : Int) by omega]
      · rw [List.take_of_length_le (by omega)] at hpk
        obtain ⟨t2, ht2⟩ := foA_ext x (blAt L i) L x.pre.length
        rw [hA] at ht2
        simp [show ((foM x c (keys L) x.pre.length).length : Int) ≤ 256 by omega, show ¬ (256 : Int) < ((foM x c (keys L) x.pre.length).length : Int) by omega, wrap_id ((i : Int) + 1) (by omega) (by omega)]
        have hA256 : A.length ≤ 256 := by omega
        exact Round.mk (i + 1, A, m') (weak_mk some (by simp) (by simp [hpk]) rfl) ⟨by simp only; omega, hA256, hpok, by rw [← hgo]; exact hr, by rw [hpk]; exact hs'⟩ (by simp only; omega)
  · obtain rfl : i = L.length := by omega
    rw [bfsA_end (by omega)] at hr
    rw [← hr, if_pos hle] at hV
    simp
    refine ⟨_, _, Sort_spec true (keys L) (by unfold Fits; omega), ?_⟩
    simp [hV]
theorem MarkingsOf_spec (n1 n2 : Bool) (x : NetV) (hx : NetOk x) : ACalls1 Tryd.prog 70 [netSl n1 n2 x] (.tup [.own 1 false (ints (markingsOfV x).1), iv (markingsOfV x).2]) := by
  refine walk (fun t => t == 1) mixed Go.Proofs.Tryd.func70 rfl rfl rfl (by kernel_rfl) rfl (by simp) (by kernel_rfl) ?_
  simp
  refine ⟨_, IsNet_spec _ _ x.p x.pre x.post x.s, ?_⟩
  cases h : isNet x.p x.pre x.post x.s
  · simp [markingsOfV, h]
  · simp
    refine ⟨_, markings_spec _ _ x h, ?_⟩
    simp
theorem l17Reached_spec (n1 n2 : Bool) (x : NetV) (hx : isNet x.p x.pre x.post x.s = true) : ACalls1 Tryd.prog 146 [netSl n1 n2 x] (.tup [.own 1 true (ints (keys (reachV x))), .own 1 true (srows true (runs (reachV x)))]) := by
  have hl := isNet_len hx
  refine walk (fun t => t == 1 || t == 4012 || t == 5058) mixed Go.Proofs.Tryd.func146 rfl rfl rfl (by kernel_rfl) rfl (by simp) (by kernel_rfl) ?_
  simp
  refine awp_loop2 [1] [] (fun s : Nat × BL => [(6, iv s.1), (4, .ref 100), (5, .ref 101)]) (fun s => [(100, .own 1 true (ints (keys s.2))), (101, .own 1 true (srows true (runs s.2)))]) (fun s => s.1 ≤ s.2.length ∧ BOk x s.1 s.2 ∧ bfsA x (300 - s.1) s.1 s.2 = reachV x) (fun s => 300 - s.1) (0, [(x.s, [])]) (weak_mk (fun t => if t = 100 then some 11 else if t = 101 then some 13 else some t) (by simp) (by simp [keys, runs, ints, srows]) rfl) ⟨by simp, bok_start hx, rfl⟩ ?_
  rintro ⟨i, L⟩ ⟨hi, hb, hr⟩
  simp only at hi hb hr
  have hkl : (keys L).length = L.length := keys_length L
  have h257 := hb.le
  by_cases hlt : i < L.length
  · have hmi := hb.ms _ (blAt_mem hlt)
    have hgo := bfsA_go (x := x) hlt (by omega)
    simp [hlt]
    refine awp_loop2 [1, 6] [] (fun a : Nat => [(7, iv a), (4, .ref 100), (5, .ref 101)]) (fun a => [(100, .own 1 true (ints (keys (foA x (blAt L i) L a)))), (101, .own 1 true (srows true (runs (foA x (blAt L i) L a))))]) (fun a => a ≤ x.pre.length) (fun a => x.pre.length - a) 0 (weak_mk some (by simp) (by simp [foA]) rfl) (by simp) ?_
    intro a ha
    simp
    refine ⟨_, l17Letters_spec _ _ x, ?_⟩
    by_cases hal : a < x.pre.length
    · have hok := foA_ok hx hb hlt a ha
      have hsucc := foA_succ x (blAt L i) L a
      obtain ⟨t, ht⟩ := foA_ext x (blAt L i) L a
      have hiA : i < (foA x (blAt L i) L a).length := by rw [ht, List.length_append]; omega
      have hat : blAt (foA x (blAt L i) L a) i = blAt L i := by rw [ht]; exact blAt_ext hlt
      have hk1 := keys_nth hiA
      have hr1 := runs_nth hiA
      rw [hat] at hk1 hr1
      have hAle := hok.le
      have hfn := fireTo_nonneg x (blAt L i).1 a (isNet_M hx) hmi.1 hal (by omega)
      have hrl := hb.rl _ (blAt_mem hlt)
      unfold stA at hsucc
      have hkA : (keys (foA x (blAt L i) L a)).length = (foA x (blAt L i) L a).length := keys_length _
      have hrA : (runs (foA x (blAt L i) L a)).length = (foA x (blAt L i) L a).length := runs_length _
      generalize foA x (blAt L i) L a = A at *
      generalize (blAt L i).1 = c at *
      generalize (blAt L i).2 = r at *
      simp [hal, hiA, hk1, show i + 1 ≤ A.length from hiA]
      repeat (rw [exE_eq]; simp [hal, hiA, hk1, show i + 1 ≤ A.length from hiA])
      refine ⟨_, l17Fire_spec _ _ x c a hal (by omega), ?_⟩
      cases hfb : fireBad x c a
      · rw [hfb, if_neg (by simp)] at hsucc
        simp [hfn]
        refine ⟨_, l01Has_spec _ _ (by unfold Fits; omega) _, ?_⟩
        by_cases hmem : fireTo x c a ∈ keys A
        · rw [if_pos hmem] at hsucc
          simp [hmem, wrap_id ((a : Int) + 1) (by omega) (by omega)]
          exact Round.mk (a + 1) (weak_mk some (by simp) (by simp [hsucc]) rfl) hal (by omega)
        · rw [if_neg hmem] at hsucc
          by_cases hle : A.length ≤ 256
          · rw [if_pos hle] at hsucc
            simp [hmem, hiA, hr1, show i + 1 ≤ A.length from hiA, show ((A.length : Nat) : Int) ≤ 256 by omega]
            refine ⟨by omega, by omega, ?_⟩
            refine ⟨_, l01Own_spec _ _ (by unfold Fits; omega), ?_⟩
            simp [wrap_id ((a : Int) + 1) (by omega) (by omega)]
            repeat (refine And.intro (by omega) ?_)
            exact Round.mk (a + 1) (weak_mk (fun t => if t = 100 then some 49 else if t = 101 then some 60 else some t) (by simp) (by simp [hsucc, keys_snoc, runs_snoc]) rfl) hal (by omega)
          · rw [if_neg hle] at hsucc
            simp [hmem, show ¬ ((A.length : Nat) : Int) ≤ 256 by omega, wrap_id ((a : Int) + 1) (by omega) (by omega)]
            exact Round.mk (a + 1) (weak_mk some (by simp) (by simp [hsucc]) rfl) hal (by omega)
      · rw [hfb, if_pos rfl] at hsucc
        simp [wrap_id ((a : Int) + 1) (by omega) (by omega)]
        exact Round.mk (a + 1) (weak_mk some (by simp) (by simp [hsucc]) rfl) hal (by omega)
    · obtain rfl : a = x.pre.length := by omega
      have hok := foA_ok hx hb hlt x.pre.length (Nat.le_refl _)
      obtain ⟨t, ht⟩ := foA_ext x (blAt L i) L x.pre.length
      simp [wrap_id ((i : Int) + 1) (by omega) (by omega)]
      exact Round.mk (i + 1, procA x L i) (weak_mk some (by simp) (by simp [procA]) rfl) ⟨by simp only [procA]; rw [ht]; simp; omega, hok, by rw [← hgo]; exact hr⟩ (by simp only; omega)
  · obtain rfl : i = L.length := by omega
    rw [bfsA_end (by omega)] at hr
    simp [hr]
theorem l12Insert_spec (nn : Bool) (l : List Int) (hl : l.length ≤ 1000000) (n : Int) (hn : ¬ n ∈ l) : ACalls1 Tryd.prog 170 [.sl 1 nn (ints l), iv n] (.own 1 true (ints (insI n l))) := by
  refine walk (fun _ => false) mixed Go.Proofs.Tryd.func170 rfl rfl rfl (by kernel_rfl) rfl (by simp) (by kernel_rfl) ?_
  simp
  refine awp_loop2 [0, 1] [] (fun k : Nat => [(5, iv k)]) (fun _ => []) (fun k => k ≤ l.length ∧ ∀ i, i < k → nth l i < n) (fun k => l.length - k) 0 (weak_mk some (by simp) (by simp) rfl) ⟨by simp, by simp⟩ ?_
  rintro k ⟨hk, hp⟩
  have stop : (k < l.length → ¬ nth l k < n) → k = insAt n l := fun h => insAt_eq hk hp h
  by_cases hkl : k < l.length
  · by_cases hkn : nth l k < n
    · simp [hkl, hkn, wrap_id ((k : Int) + 1) (by omega) (by omega)]
      refine Round.mk (k + 1) (weak_mk some (by simp) (by simp) rfl) ⟨hkl, fun i hi => ?_⟩ (by omega)
      by_cases e : i = k
      · subst e; exact hkn
      · exact hp i (by omega)
    · have hat := stop (fun _ => hkn)
      have hne : ¬ nth l k = n := fun e => hn (e ▸ nth_mem hkl)
      rw [insI_eq, ← hat]
      simp [hkl, hkn, hne, ints_drop, ints_take]
      have hmin : min k l.length = k := by omega
      rw [hmin]
      repeat (refine And.intro (by omega) ?_)
      left
      have h2 : (l.drop k).take (l.length - k) = l.drop k := List.take_of_length_le (by simp)
      rw [h2, ← ints_cons, ← ints_append]
      exact .refl _
  · have hat := stop (fun h => absurd h hkl)
    obtain rfl : k = l.length := by omega
    rw [insI_eq, ← hat]
    simp [ints_drop, ints_take]
    omega
theorem l17Sorted_spec (nn : Bool) (l : List Int) (hl : l.length ≤ 1000000) (hnd : l.Nodup) : ACalls1 Tryd.prog 147 [.sl 1 nn (ints l)] (.own 1 true (ints (sortI l))) := by
  refine walk (fun _ => false) mixed Go.Proofs.Tryd.func147 rfl rfl rfl (by kernel_rfl) rfl (by simp) (by kernel_rfl) ?_
  simp
  refine awp_loop2 [0] [] (fun k : Nat => [(4, iv k), (3, .ref 100)]) (fun k => [(100, .own 1 true (ints (sortI (l.take k))))]) (fun k => k ≤ l.length) (fun k => l.length - k) 0 (weak_mk (fun t => if t = 100 then some 5 else some t) (by simp) (by simp [sortI_nil]) rfl) (by simp) ?_
  intro k hk
  by_cases hkl : k < l.length
  · have hn : ¬ nth l k ∈ sortI (l.take k) := by
      rw [sortI_mem]
      intro hm
      obtain ⟨i, hi, e⟩ := List.mem_iff_getElem.1 hm
      rw [List.length_take] at hi
      rw [List.getElem_take, nth_at hkl] at e
      exact List.pairwise_iff_getElem.1 hnd i k (by omega) hkl (by omega) e
    have hst : insI (nth l k) (sortI (l.take k)) = sortI (l.take (k + 1)) := by
      rw [sortI_snoc, List.take_succ_eq_append_getElem hkl, nth_at hkl]
    simp [hkl]
    refine ⟨_, l12Insert_spec _ _ (by simp; omega) _ hn, ?_⟩
    rw [hst]
    simp [wrap_id ((k : Int) + 1) (by omega) (by omega)]
    exact Round.mk (k + 1) (weak_mk (fun t => if t = 100 then some 17 else some t) (by simp) (by simp) rfl) hkl (by omega)
  · obtain rfl : k = l.length := by omega
    simp
theorem specMarkingsOf_spec (n1 n2 : Bool) (x : NetV) (hx : NetOk x) : ACalls1 Tryd.prog 76 [netSl n1 n2 x] (.tup [.own 1 false (ints (markingsOfV x).1), iv (markingsOfV x).2]) := by
  refine walk (fun t => t == 1) mixed Go.Proofs.Tryd.func76 rfl rfl rfl (by kernel_rfl) rfl (by simp) (by kernel_rfl) ?_
  simp
  refine ⟨_, l17Is_spec _ _ x.p x.pre x.post x.s hx.1, ?_⟩
  cases h : isNet x.p x.pre x.post x.s
  · simp [markingsOfV, h]
  · simp
    refine ⟨_, l17Reached_spec _ _ x h, ?_⟩
    obtain ⟨r, hr⟩ := reach_ok h
    have hle := hr.le
    have hk : (keys (reachV x)).length = (reachV x).length := keys_length _
    by_cases h2 : (reachV x).length ≤ 256
    · have hV : markingsOfV x = (sortI (keys (reachV x)), 0) := by unfold markingsOfV; rw [if_pos h, if_pos h2]
      simp [show ¬ (256 : Int) < ((reachV x).length : Int) by omega, show ((reachV x).length : Int) ≤ 256 by omega]
      refine ⟨_, l17Sorted_spec _ _ (by omega) hr.nd, ?_⟩
      simp [hV]
    · have hV : markingsOfV x = ([], 3) := by unfold markingsOfV; rw [if_pos h, if_neg h2]
      simp [show (256 : Int) < ((reachV x).length : Int) by omega, show ¬ ((reachV x).length : Int) ≤ 256 by omega, hV]
end Go.AM
