/-
  Machines of states that are found from a first one: plain.
-/
import Derived.Test.YtnimmbjbinpajaaDoorFnNa
set_option linter.unusedVariables false
set_option linter.unusedSimpArgs false
set_option linter.unusedSectionVars false
namespace Go.AM
/-- States, where letters lead, which states are final. -/
structure Sys (α : Type) where
  L : Nat
  nx : α → Nat → α
  ok : α → Nat → Bool
  fin : α → Bool
def sysLang {α : Type} (S : Sys α) : α → Lang
  | s, [] => S.fin s
  | s, a :: w => if a < S.L then (if S.ok s a then sysLang S (S.nx s a) w else false) else false
section
variable {α : Type} (S : Sys α)
open Classical in
noncomputable def eStep (s : α) (p : List α × List Int) (a : Nat) : List α × List Int :=
  if S.ok s a then (if S.nx s a ∈ p.1 then (p.1, p.2 ++ [(ixOf p.1 (S.nx s a) : Int)]) else (p.1 ++ [S.nx s a], p.2 ++ [(p.1.length : Int)])) else (p.1, p.2 ++ [-1])
noncomputable def eRow (s : α) (l : List α) (k : Nat) : List α × List Int := (List.range k).foldl (eStep S s) (l, [])
theorem eRow_succ (s : α) (l : List α) (k : Nat) : eRow S s l (k + 1) = eStep S s (eRow S s l k) k := by
  unfold eRow; rw [List.range_succ, List.foldl_append]; rfl
theorem eRow_zero (s : α) (l : List α) : eRow S s l 0 = (l, []) := rfl
noncomputable def eIter (start : α) : Nat → List α × List (List Int)
  | 0 => ([start], [])
  | i + 1 => let p := eIter start i
    if i < p.1.length then
      let q := eRow S (p.1.getD i start) p.1 S.L
      (q.1, p.2 ++ [q.2])
    else p
theorem eIter_succ (start : α) (i : Nat) : eIter S start (i + 1) = if i < (eIter S start i).1.length then ((eRow S ((eIter S start i).1.getD i start) (eIter S start i).1 S.L).1, (eIter S start i).2 ++ [(eRow S ((eIter S start i).1.getD i start) (eIter S start i).1 S.L).2]) else eIter S start i := rfl
theorem eIter_stay (start : α) {N : Nat} (h : (eIter S start N).1.length = N) : ∀ k, eIter S start (N + k) = eIter S start N
  | 0 => rfl
  | k + 1 => by
    have ih := eIter_stay start h k
    show eIter S start ((N + k) + 1) = _
    rw [eIter_succ, ih, if_neg (by omega)]
theorem eIter_one (start : α) {N N' : Nat} (h : (eIter S start N).1.length = N) (h' : (eIter S start N').1.length = N') : eIter S start N = eIter S start N' := by
  rcases Nat.le_total N N' with hle | hle
  · obtain ⟨k, rfl⟩ := Nat.le.dest hle
    exact (eIter_stay S start h k).symm
  · obtain ⟨k, rfl⟩ := Nat.le.dest hle
    exact eIter_stay S start h' k
open Classical in
/-- The states that are found, and their rows. -/
noncomputable def expP (start : α) : List α × List (List Int) := if h : ∃ N, (eIter S start N).1.length = N then eIter S start (Classical.choose h) else ([], [])
theorem expP_eq (start : α) {N : Nat} (h : (eIter S start N).1.length = N) : expP S start = eIter S start N := by
  have hex : ∃ N, (eIter S start N).1.length = N := ⟨N, h⟩
  unfold expP
  rw [dif_pos hex]
  exact eIter_one S start (Classical.choose_spec hex) h
noncomputable def expM (start : α) : MchV := ⟨S.L, (expP S start).1.map S.fin, (expP S start).2⟩
/-- A set of states that letters do not leave. -/
structure DomOk (Dm : α → Prop) (B : Nat) : Prop where
  cl : ∀ s a, Dm s → a < S.L → S.ok s a = true → Dm (S.nx s a)
  sz : ∀ l : List α, l.Nodup → (∀ x ∈ l, Dm x) → l.length ≤ B
structure ELOk (Dm : α → Prop) (l : List α) : Prop where
  d : ∀ x ∈ l, Dm x
  nd : l.Nodup
variable {S} {Dm : α → Prop} {B : Nat} (hD : DomOk S Dm B)
include hD
theorem eRow_ok {s : α} (hs : Dm s) {l : List α} (hl : ELOk Dm l) : ∀ k, k ≤ S.L → ELOk Dm (eRow S s l k).1 ∧ (∃ t, (eRow S s l k).1 = l ++ t) ∧ (eRow S s l k).2.length = k ∧ ∀ a, a < k → (S.ok s a = false ∧ nth (eRow S s l k).2 a = -1) ∨ (S.ok s a = true ∧ ∃ j : Nat, nth (eRow S s l k).2 a = (j : Int) ∧ ∃ h : j < (eRow S s l k).1.length, (eRow S s l k).1[j] = S.nx s a)
  | 0, _ => ⟨hl, ⟨[], by simp [eRow]⟩, by simp [eRow], fun a ha => by omega⟩
  | k + 1, hk => by
    obtain ⟨h1, ⟨t, h2⟩, h3, h4⟩ := eRow_ok hs hl k (by omega)
    rw [eRow_succ]
    generalize eRow S s l k = p at *
    unfold eStep
    cases hok : S.ok s k
    · simp only [Bool.false_eq_true, if_false]
      refine ⟨h1, ⟨t, h2⟩, by simp [h3], fun a ha => ?_⟩
      by_cases e : a = k
      · subst e; left; exact ⟨hok, by rw [← h3]; exact nth_snoc_last⟩
      · rw [nth_snoc (by omega)]; exact h4 a (by omega)
    · simp only [if_true]
      split
      · rename_i hm
        refine ⟨h1, ⟨t, h2⟩, by simp [h3], fun a ha => ?_⟩
        by_cases e : a = k
        · subst e; right; exact ⟨hok, _, by simp only; rw [← h3]; exact nth_snoc_last, ixOf_lt hm, ixOf_at _⟩
        · simp only; rw [nth_snoc (by omega)]; exact h4 a (by omega)
      · rename_i hm
        refine ⟨⟨fun x hx => ?_, List.nodup_append.2 ⟨h1.nd, by simp, fun u hu v hv e => by rw [List.mem_singleton] at hv; subst hv; subst e; exact hm hu⟩⟩, ⟨t ++ [S.nx s k], by simp [h2]⟩, by simp [h3], fun a ha => ?_⟩
        · rcases List.mem_append.1 hx with hx | hx
          · exact h1.d x hx
          · rw [List.mem_singleton] at hx; subst hx; exact hD.cl s k hs (by omega) hok
        · by_cases e : a = k
          · subst e; right; exact ⟨hok, p.1.length, by simp only; rw [← h3]; exact nth_snoc_last, by simp, by simp⟩
          · simp only; rw [nth_snoc (by omega)]
            rcases h4 a (by omega) with h | ⟨h, j, j1, j2, j3⟩
            · exact .inl h
            · exact .inr ⟨h, j, j1, by simp; omega, by rw [List.getElem_append_left j2]; exact j3⟩
structure EIOk (S : Sys α) (Dm : α → Prop) (start : α) (i : Nat) (p : List α × List (List Int)) : Prop where
  el : ELOk Dm p.1
  pos : 0 < p.1.length
  hd : p.1.getD 0 start = start
  rl : i ≤ p.1.length → p.2.length = i
  le : p.2.length ≤ p.1.length
  row : ∀ j, j < p.2.length → (nthR p.2 j).length = S.L
  go : ∀ j, j < p.2.length → ∀ a, a < S.L → (S.ok (p.1.getD j start) a = false ∧ nth (nthR p.2 j) a = -1) ∨ (S.ok (p.1.getD j start) a = true ∧ ∃ k : Nat, nth (nthR p.2 j) a = (k : Int) ∧ k < p.1.length ∧ p.1.getD k start = S.nx (p.1.getD j start) a)
theorem eIter_ok {start : α} (hst : Dm start) : ∀ i, EIOk S Dm start i (eIter S start i)
  | 0 => ⟨⟨fun x hx => by simp [eIter] at hx; subst hx; exact hst, by simp [eIter]⟩, by simp [eIter], by simp [eIter], by simp [eIter], by simp [eIter], fun j hj => by simp [eIter] at hj, fun j hj => by simp [eIter] at hj⟩
  | i + 1 => by
    have ih := eIter_ok hst i
    rw [eIter_succ]
    generalize eIter S start i = p at *
    split
    · rename_i hlt
      have hmem : p.1.getD i start ∈ p.1 := by rw [getD_lt hlt]; exact List.getElem_mem hlt
      obtain ⟨h1, ⟨t, h2⟩, h3, h4⟩ := eRow_ok hD (ih.el.d _ hmem) ih.el S.L (Nat.le_refl _)
      generalize eRow S (p.1.getD i start) p.1 S.L = q at *
      have hrl := ih.rl (by omega)
      have hql : p.1.length ≤ q.1.length := by rw [h2]; simp
      have hg : ∀ j, j < p.1.length → q.1.getD j start = p.1.getD j start := fun j hj => by rw [h2, getD_append hj]
      have hpos := ih.pos
      refine ⟨h1, by simp only; omega, by simp only; rw [hg 0 ih.pos]; exact ih.hd, fun _ => by simp [hrl], by simp; omega, fun j hj => ?_, fun j hj a ha => ?_⟩
      · simp only [List.length_append, List.length_cons, List.length_nil] at hj
        by_cases e : j = i
        · subst e
          simp only
          rw [← hrl, nthR_snoc_last]; exact h3
        · simp only; rw [nthR_snoc (by omega)]; exact ih.row j (by omega)
      · simp only [List.length_append, List.length_cons, List.length_nil] at hj
        by_cases e : j = i
        · subst e
          simp only
          rw [show nthR (p.2 ++ [q.2]) j = q.2 by rw [← hrl]; exact nthR_snoc_last, hg j hlt]
          rcases h4 a ha with h | ⟨h, k, k1, k2, k3⟩
          · exact .inl h
          · exact .inr ⟨h, k, k1, k2, by rw [getD_lt k2]; exact k3⟩
        · simp only
          rw [nthR_snoc (by omega), hg j (by omega)]
          rcases ih.go j (by omega) a ha with h | ⟨h, k, k1, k2, k3⟩
          · exact .inl h
          · exact .inr ⟨h, k, k1, by omega, by rw [hg k k2]; exact k3⟩
    · rename_i hlt
      exact ⟨ih.el, ih.pos, ih.hd, fun h => by omega, ih.le, ih.row, ih.go⟩
theorem eIter_len {start : α} (hst : Dm start) (i : Nat) : (eIter S start i).1.length ≤ B := hD.sz _ (eIter_ok hD hst i).el.nd (eIter_ok hD hst i).el.d
theorem eIter_ends {start : α} (hst : Dm start) : ∃ N, (eIter S start N).1.length = N := by
  apply Classical.byContradiction
  intro hne
  have : ∀ N, N < (eIter S start N).1.length := by
    intro N
    induction N with
    | zero => exact (eIter_ok hD hst 0).pos
    | succ N ih =>
      have h1 := eIter_succ S start N
      rw [if_pos ih] at h1
      have hmem : (eIter S start N).1.getD N start ∈ (eIter S start N).1 := by rw [getD_lt ih]; exact List.getElem_mem ih
      obtain ⟨_, ⟨t, h2⟩, _⟩ := eRow_ok hD ((eIter_ok hD hst N).el.d _ hmem) (eIter_ok hD hst N).el S.L (Nat.le_refl _)
      have h3 : N < (eIter S start (N + 1)).1.length := by rw [h1]; simp only; rw [h2]; simp; omega
      rcases Nat.lt_or_ge (N + 1) (eIter S start (N + 1)).1.length with h | h
      · exact h
      · exact absurd ⟨N + 1, by omega⟩ hne
  have h1 := this (B + 1)
  have h2 := eIter_len hD hst (B + 1)
  omega
theorem expM_ok {start : α} (hst : Dm start) : MchOk (expM S start) ∧ 0 < (expM S start).next.length ∧ (expM S start).next.length ≤ B ∧ langV (expM S start) 0 = sysLang S start := by
  obtain ⟨N, hN⟩ := eIter_ends hD hst
  have hok := eIter_ok hD hst N
  have hle := eIter_len hD hst N
  have he := expP_eq S start hN
  have hM : expM S start = ⟨S.L, (eIter S start N).1.map S.fin, (eIter S start N).2⟩ := by unfold expM; rw [he]
  rw [hM]
  have hrl := hok.rl (by omega)
  have hp := hok.pos
  generalize eIter S start N = p at *
  have hgo : ∀ j, j < N → ∀ a, a < S.L → (S.ok (p.1.getD j start) a = false ∧ goV ⟨S.L, p.1.map S.fin, p.2⟩ j a = -1) ∨ (S.ok (p.1.getD j start) a = true ∧ ∃ k : Nat, goV ⟨S.L, p.1.map S.fin, p.2⟩ j a = (k : Int) ∧ k < p.1.length ∧ p.1.getD k start = S.nx (p.1.getD j start) a) := fun j hj a ha => hok.go j (by omega) a ha
  have hmo : MchOk ⟨S.L, p.1.map S.fin, p.2⟩ := by
    refine ⟨by simp; omega, hok.row, fun i hi a ha => ?_⟩
    simp only at hi ha ⊢
    rcases hgo i (by omega) a ha with ⟨_, h⟩ | ⟨_, k, k1, k2, _⟩
    · rw [h]; omega
    · rw [k1]; omega
  refine ⟨hmo, by simp only; omega, by simp only; omega, ?_⟩
  have key : ∀ w (j : Nat), j < N → langV ⟨S.L, p.1.map S.fin, p.2⟩ (j : Int) w = sysLang S (p.1.getD j start) w := by
    intro w
    induction w with
    | nil =>
      intro j hj
      simp only [langV, finV, sysLang]
      rw [if_neg (by omega), Int.toNat_natCast, getD_lt (by simp; omega), getD_lt (by omega)]
      simp
    | cons a w ih =>
      intro j hj
      simp only [langV, sysLang]
      rw [if_neg (by omega), Int.toNat_natCast]
      by_cases ha : a < S.L
      · rw [if_pos ha, if_pos ha]
        rcases hgo j hj a ha with ⟨h0, h⟩ | ⟨h0, k, k1, k2, k3⟩
        · rw [h, lang_neg _ (by omega) w, h0]; simp
        · rw [k1, h0, if_pos rfl, ih k (by omega), k3]
      · rw [if_neg ha, if_neg ha]
  funext w
  have := key w 0 (by omega)
  rw [hok.hd] at this
  exact this
end
end Go.AM
