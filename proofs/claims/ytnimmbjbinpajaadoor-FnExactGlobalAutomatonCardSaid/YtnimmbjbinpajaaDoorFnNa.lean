/-
  Machines: what they accept from a state; the canonical machine of a language, by a search in breadth; what a search by classes finds is the canonical machine.
-/
import Derived.Test.YtnimmbjbinpajaaDoorFnNd
import Derived.Test.YtnimmbjbinpajaaDoorFnR
set_option linter.unusedVariables false
set_option linter.unusedSimpArgs false
set_option linter.unusedSectionVars false
namespace Go.AM
open Classical in
/-- The place of a member in a list. -/
noncomputable def ixOf {α : Type} : List α → α → Nat
  | [], _ => 0
  | y :: l, x => if y = x then 0 else ixOf l x + 1
theorem ixOf_lt {α : Type} : ∀ {l : List α} {x : α}, x ∈ l → ixOf l x < l.length
  | [], _, h => by cases h
  | y :: l, x, h => by
    unfold ixOf
    split
    · simp
    · rename_i e
      have := ixOf_lt (l := l) (x := x) (by rcases List.mem_cons.1 h with rfl | h; exact absurd rfl e; exact h)
      simp; omega
theorem ixOf_at {α : Type} : ∀ {l : List α} {x : α} (h : ixOf l x < l.length), l[ixOf l x] = x
  | [], _, h => by simp at h
  | y :: l, x, h => by
    by_cases e : y = x
    · have : ixOf (y :: l) x = 0 := by unfold ixOf; rw [if_pos e]
      subst e
      simp only [this, List.getElem_cons_zero]
    · have h1 : ixOf (y :: l) x = ixOf l x + 1 := by rw [ixOf, if_neg e]
      simp only [h1, List.getElem_cons_succ]
      exact ixOf_at _
theorem ixOf_snoc {α : Type} : ∀ {l : List α} {x y : α}, x ∈ l → ixOf (l ++ [y]) x = ixOf l x
  | [], _, _, h => by cases h
  | z :: l, x, y, h => by
    simp only [List.cons_append, ixOf]
    split
    · rfl
    · rename_i e
      rw [ixOf_snoc (by rcases List.mem_cons.1 h with rfl | h; exact absurd rfl e; exact h)]
theorem ixOf_new {α : Type} : ∀ {l : List α} {x : α}, x ∉ l → ixOf l x = l.length
  | [], _, _ => rfl
  | z :: l, x, h => by
    rw [ixOf, if_neg (fun e => h (by simp [e])), ixOf_new fun e => h (by simp [e])]; rfl
theorem ixOf_map {α β γ : Type} {f : α → β} {g : α → γ} {x : α} : ∀ {l : List α}, (∀ y ∈ l, f y = f x ↔ g y = g x) → ixOf (l.map f) (f x) = ixOf (l.map g) (g x)
  | [], _ => rfl
  | y :: l, h => by
    simp only [List.map_cons, ixOf]
    have h1 := h y (by simp)
    by_cases e : f y = f x
    · rw [if_pos e, if_pos (h1.1 e)]
    · rw [if_neg e, if_neg fun e2 => e (h1.2 e2), ixOf_map fun z hz => h z (by simp [hz])]
theorem mem_map_same {α β γ : Type} {f : α → β} {g : α → γ} {x : α} {l : List α} (h : ∀ y ∈ l, f y = f x ↔ g y = g x) : f x ∈ l.map f ↔ g x ∈ l.map g := by
  simp only [List.mem_map]
  constructor
  · rintro ⟨y, hy, e⟩; exact ⟨y, hy, (h y hy).1 e⟩
  · rintro ⟨y, hy, e⟩; exact ⟨y, hy, (h y hy).2 e⟩
abbrev Lang := List Nat → Bool
def der (l : Lang) (a : Nat) : Lang := fun w => l (a :: w)
def Void (l : Lang) : Prop := ∀ w, l w = false
structure MchV where
  letters : Nat
  fin : List Bool
  next : List (List Int)
/-- Where a letter leads. -/
def goV (m : MchV) (s a : Nat) : Int := nth (nthR m.next s) a
def finV (m : MchV) (s : Int) : Bool := if s < 0 then false else m.fin.getD s.toNat false
/-- What is accepted from a state. -/
def langV (m : MchV) : Int → Lang
  | s, [] => finV m s
  | s, a :: w => if s < 0 then false else if a < m.letters then langV m (goV m s.toNat a) w else false
structure MchOk (m : MchV) : Prop where
  f : m.fin.length = m.next.length
  rl : ∀ i, i < m.next.length → (nthR m.next i).length = m.letters
  rr : ∀ i, i < m.next.length → ∀ a, a < m.letters → -1 ≤ goV m i a ∧ goV m i a < m.next.length
theorem lang_neg (m : MchV) {s : Int} (h : s < 0) : Void (langV m s) := fun w => by
  cases w with
  | nil => simp [langV, finV, h]
  | cons a w => simp [langV, h]
theorem lang_der (m : MchV) {s : Int} (h : 0 ≤ s) {a : Nat} (ha : a < m.letters) : der (langV m s) a = langV m (goV m s.toNat a) := by
  funext w
  have : ¬ s < 0 := by omega
  simp [der, langV, this, ha]
theorem lang_eq_of (m : MchV) {s t : Int} (hs : 0 ≤ s) (ht : 0 ≤ t) (h0 : finV m s = finV m t) (h : ∀ a, a < m.letters → langV m (goV m s.toNat a) = langV m (goV m t.toNat a)) : langV m s = langV m t := by
  funext w
  have h1 : ¬ s < 0 := by omega
  have h2 : ¬ t < 0 := by omega
  cases w with
  | nil => simpa [langV] using h0
  | cons a w =>
    simp only [langV, h1, h2, if_false]
    by_cases ha : a < m.letters
    · simp only [ha, if_true]; rw [h a ha]
    · simp [ha]
/-! The canonical machine. -/
open Classical in
noncomputable def cStep (l : Lang) (p : List Lang × List Int) (a : Nat) : List Lang × List Int :=
  if Void (der l a) then (p.1, p.2 ++ [-1]) else if der l a ∈ p.1 then (p.1, p.2 ++ [(ixOf p.1 (der l a) : Int)]) else (p.1 ++ [der l a], p.2 ++ [(p.1.length : Int)])
noncomputable def cRow (l : Lang) (Ls : List Lang) (k : Nat) : List Lang × List Int := (List.range k).foldl (cStep l) (Ls, [])
theorem cRow_succ (l : Lang) (Ls : List Lang) (k : Nat) : cRow l Ls (k + 1) = cStep l (cRow l Ls k) k := by
  unfold cRow; rw [List.range_succ, List.foldl_append]; rfl
noncomputable def cIter (L : Nat) (l : Lang) : Nat → List Lang × List (List Int)
  | 0 => ([l], [])
  | i + 1 => let p := cIter L l i
    if i < p.1.length then
      let q := cRow (p.1.getD i l) p.1 L
      (q.1, p.2 ++ [q.2])
    else p
/-- The canonical machine of a language over so many letters: its rows, which states are final. -/
def IsCanon (L : Nat) (l : Lang) (rows : List (List Int)) (fins : List Bool) : Prop := ∃ N Ls, cIter L l N = (Ls, rows) ∧ Ls.length = N ∧ fins = Ls.map fun k => k []
theorem cIter_stay (L : Nat) (l : Lang) {N : Nat} (h : (cIter L l N).1.length = N) : ∀ k, cIter L l (N + k) = cIter L l N
  | 0 => rfl
  | k + 1 => by
    have ih := cIter_stay L l h k
    show cIter L l ((N + k) + 1) = _
    rw [cIter]
    simp only [ih]
    rw [if_neg (by omega)]
/-- There is just one. -/
theorem canon_one {L : Nat} {l : Lang} {r r' : List (List Int)} {f f' : List Bool} (h : IsCanon L l r f) (h' : IsCanon L l r' f') : r = r' ∧ f = f' := by
  obtain ⟨N, Ls, h1, h2, h3⟩ := h
  obtain ⟨N', Ls', h1', h2', h3'⟩ := h'
  have key : cIter L l N = cIter L l N' := by
    rcases Nat.le_total N N' with hle | hle
    · obtain ⟨k, rfl⟩ := Nat.le.dest hle
      exact (cIter_stay L l (by rw [h1]; exact h2) k).symm
    · obtain ⟨k, rfl⟩ := Nat.le.dest hle
      exact cIter_stay L l (by rw [h1']; exact h2') k
  rw [h1, h1'] at key
  cases key
  exact ⟨rfl, by rw [h3, h3']⟩
/-- What each row of the canonical machine tells. -/
structure CanOk (L : Nat) (Ls : List Lang) (rows : List (List Int)) : Prop where
  rl : ∀ i, i < rows.length → (nthR rows i).length = L
  rr : ∀ i, i < rows.length → ∀ a, a < L → (Void (der (Ls.getD i fun _ => false) a) ∧ nth (nthR rows i) a = -1) ∨ ∃ k, k < Ls.length ∧ nth (nthR rows i) a = (k : Int) ∧ Ls.getD k (fun _ => false) = der (Ls.getD i fun _ => false) a
theorem getD_snoc {α : Type} {l : List α} {x d : α} {i : Nat} (h : i < l.length) : (l ++ [x]).getD i d = l.getD i d := by
  simp [List.getD_eq_getElem?_getD, List.getElem?_append_left h]
theorem getD_snoc_last {α : Type} {l : List α} {x d : α} : (l ++ [x]).getD l.length d = x := by
  simp [List.getD_eq_getElem?_getD]
theorem getD_lt {α : Type} {l : List α} {d : α} {i : Nat} (h : i < l.length) : l.getD i d = l[i] := by
  simp [List.getD_eq_getElem?_getD, h]
theorem getD_append {α : Type} {l t : List α} {d : α} {i : Nat} (h : i < l.length) : (l ++ t).getD i d = l.getD i d := by
  simp [List.getD_eq_getElem?_getD, List.getElem?_append_left h]
theorem nth_snoc {l : List Int} {x : Int} {i : Nat} (h : i < l.length) : nth (l ++ [x]) i = nth l i := by unfold nth; exact getD_snoc h
theorem nth_snoc_last {l : List Int} {x : Int} : nth (l ++ [x]) l.length = x := by unfold nth; exact getD_snoc_last
theorem nthR_snoc {l : List (List Int)} {x : List Int} {i : Nat} (h : i < l.length) : nthR (l ++ [x]) i = nthR l i := by unfold nthR; exact getD_snoc h
theorem nthR_snoc_last {l : List (List Int)} {x : List Int} : nthR (l ++ [x]) l.length = x := by unfold nthR; exact getD_snoc_last
theorem cRow_ok (l : Lang) (Ls : List Lang) (k : Nat) : (∃ t, (cRow l Ls k).1 = Ls ++ t) ∧ (cRow l Ls k).2.length = k ∧ ∀ a, a < k → (Void (der l a) ∧ nth (cRow l Ls k).2 a = -1) ∨ ∃ j, j < (cRow l Ls k).1.length ∧ nth (cRow l Ls k).2 a = (j : Int) ∧ (cRow l Ls k).1.getD j (fun _ => false) = der l a := by
  induction k with
  | zero => exact ⟨⟨[], by simp [cRow]⟩, by simp [cRow], fun a ha => by omega⟩
  | succ k ih =>
    obtain ⟨⟨t, ht⟩, hl, hr⟩ := ih
    rw [cRow_succ]
    generalize cRow l Ls k = p at *
    unfold cStep
    split
    · rename_i hv
      refine ⟨⟨t, ht⟩, by simp [hl], fun a ha => ?_⟩
      by_cases e : a = k
      · subst e
        left; exact ⟨hv, by simp only; rw [← hl]; exact nth_snoc_last⟩
      · simp only; rw [nth_snoc (by omega)]; exact hr a (by omega)
    · rename_i hv
      split
      · rename_i hm
        have hlt := ixOf_lt hm
        refine ⟨⟨t, ht⟩, by simp [hl], fun a ha => ?_⟩
        by_cases e : a = k
        · subst e
          right
          exact ⟨_, hlt, by simp only; rw [← hl]; exact nth_snoc_last, by rw [getD_lt hlt]; exact ixOf_at hlt⟩
        · simp only; rw [nth_snoc (by omega)]; exact hr a (by omega)
      · refine ⟨⟨t ++ [der l k], by simp [ht]⟩, by simp [hl], fun a ha => ?_⟩
        by_cases e : a = k
        · subst e
          right
          exact ⟨p.1.length, by simp, by simp only; rw [← hl]; exact nth_snoc_last, getD_snoc_last⟩
        · simp only; rw [nth_snoc (by omega)]
          rcases hr a (by omega) with h1 | ⟨j, h1, h2, h3⟩
          · exact .inl h1
          · exact .inr ⟨j, by simp; omega, h2, by rw [getD_snoc h1]; exact h3⟩
theorem cIter_ok (L : Nat) (l : Lang) : ∀ N, CanOk L (cIter L l N).1 (cIter L l N).2 ∧ (cIter L l N).2.length ≤ N ∧ (cIter L l N).2.length ≤ (cIter L l N).1.length ∧ (N ≤ (cIter L l N).1.length → (cIter L l N).2.length = N) ∧ (cIter L l N).1.getD 0 (fun _ => false) = l ∧ 0 < (cIter L l N).1.length
  | 0 => ⟨⟨fun i hi => by simp [cIter] at hi, fun i hi => by simp [cIter] at hi⟩, by simp [cIter], by simp [cIter], by simp [cIter], by simp [cIter], by simp [cIter]⟩
  | N + 1 => by
    obtain ⟨h1, h2, h3, h4, h5, h6⟩ := cIter_ok L l N
    rw [cIter]
    simp only
    generalize cIter L l N = p at *
    split
    · rename_i hlt
      have hN := h4 (by omega)
      obtain ⟨⟨t, ht⟩, hl, hr⟩ := cRow_ok (p.1.getD N l) p.1 L
      generalize cRow (p.1.getD N l) p.1 L = q at *
      have hg : ∀ i, i < p.1.length → q.1.getD i (fun _ => false) = p.1.getD i (fun _ => false) := fun i hi => by rw [ht, getD_append hi]
      have hN2 : p.1.getD N l = p.1.getD N (fun _ => false) := by rw [getD_lt hlt, getD_lt hlt]
      have hql : p.1.length ≤ q.1.length := by rw [ht]; simp
      refine ⟨⟨fun i hi => ?_, fun i hi a ha => ?_⟩, by simp; omega, by simp; omega, fun _ => by simp; omega, by rw [hg 0 h6]; exact h5, by simp only; omega⟩
      · simp only [List.length_append, List.length_cons, List.length_nil] at hi
        by_cases e : i = N
        · subst e
          simp only
          rw [← hN, nthR_snoc_last]; exact hl
        · simp only
          rw [nthR_snoc (by omega)]; exact h1.rl i (by omega)
      · simp only [List.length_append, List.length_cons, List.length_nil] at hi
        by_cases e : i = N
        · subst e
          simp only
          rw [hg i hlt, ← hN2]
          have := hr a ha
          rw [show nthR (p.2 ++ [q.2]) i = q.2 by rw [← hN]; exact nthR_snoc_last]
          exact this
        · simp only
          rw [nthR_snoc (by omega), hg i (by omega)]
          rcases h1.rr i (by omega) a ha with h | ⟨k, k1, k2, k3⟩
          · exact .inl h
          · exact .inr ⟨k, by omega, k2, by rw [hg k k1]; exact k3⟩
    · exact ⟨h1, by omega, h3, fun h => by omega, h5, h6⟩
/-- The canonical machine accepts the language. -/
theorem canon_lang {L : Nat} {l : Lang} (hl : ∀ a w, ¬ a < L → l (a :: w) = false) (hsub : ∀ v a w, ¬ a < L → l (v ++ a :: w) = false) {rows : List (List Int)} {fins : List Bool} (h : IsCanon L l rows fins) :
    MchOk ⟨L, fins, rows⟩ ∧ 0 < rows.length ∧ langV ⟨L, fins, rows⟩ 0 = l := by
  obtain ⟨N, Ls, h1, h2, h3⟩ := h
  obtain ⟨hc, _, _, h4, h5, h6⟩ := cIter_ok L l N
  rw [h1] at hc h4 h5 h6
  simp only at hc h4 h5 h6
  have hrl := h4 (by omega)
  have hfl : fins.length = Ls.length := by rw [h3]; simp
  have hok : MchOk ⟨L, fins, rows⟩ := by
    refine ⟨by simp only; omega, hc.rl, fun i hi a ha => ?_⟩
    rcases hc.rr i hi a ha with h | ⟨k, k1, k2, k3⟩
    · simp only [goV]; rw [h.2]; omega
    · simp only [goV]; rw [k2]; omega
  refine ⟨hok, by omega, ?_⟩
  have key : ∀ w i, i < Ls.length → (∀ a ∈ w, a < L) → langV ⟨L, fins, rows⟩ (i : Int) w = Ls.getD i (fun _ => false) w := by
    intro w
    induction w with
    | nil =>
      intro i hi _
      simp only [langV, finV]
      rw [if_neg (by omega), Int.toNat_natCast, getD_lt (by omega), getD_lt hi]
      simp [h3]
    | cons a w ih =>
      intro i hi hw
      have ha := hw a (by simp)
      simp only [langV]
      rw [if_neg (by omega), Int.toNat_natCast, if_pos ha]
      simp only [goV]
      rcases hc.rr i (by omega) a ha with h | ⟨k, k1, k2, k3⟩
      · rw [h.2, lang_neg _ (by omega) w]
        exact (h.1 w).symm
      · rw [k2, ih k k1 fun b hb => hw b (by simp [hb]), k3]; rfl
  funext w
  by_cases hw : ∀ a ∈ w, a < L
  · have := key w 0 h6 hw
    rw [h5] at this
    exact this
  · have hL : ∀ (m : MchV) (w : List Nat), (¬ ∀ a ∈ w, a < m.letters) → ∀ s, langV m s w = false := by
      intro m w
      induction w with
      | nil => intro hw; exact absurd (by simp) hw
      | cons b w ih =>
        intro hw s
        simp only [langV]
        split
        · rfl
        · split
          · rename_i hb
            exact ih (fun hall => hw (by simpa [hb] using hall)) _
          · rfl
    rw [hL _ w hw]
    symm
    have : ∃ a, a ∈ w ∧ ¬ a < L := by
      apply Classical.byContradiction
      intro hne
      exact hw fun a ha => Classical.byContradiction fun h => hne ⟨a, ha, h⟩
    obtain ⟨a, ha, hna⟩ := this
    obtain ⟨v, u, rfl⟩ := List.append_of_mem ha
    exact hsub v a u hna
/-! The search by classes. -/
/-- The class of a state, -1 for no state. -/
def clX (c : List Int) (r : Int) : Int := if r < 0 then -1 else nth c r.toNat
open Classical in
noncomputable def mStep (c : List Int) (m : MchV) (s : Nat) (p : List Int × List Int) (a : Nat) : List Int × List Int :=
  if clX c (goV m s a) < 0 then (p.1, p.2 ++ [-1]) else if clX c (goV m s a) ∈ p.1.map (clX c) then (p.1, p.2 ++ [(ixOf (p.1.map (clX c)) (clX c (goV m s a)) : Int)]) else (p.1 ++ [goV m s a], p.2 ++ [(p.1.length : Int)])
noncomputable def mRow (c : List Int) (m : MchV) (s : Nat) (l : List Int) (k : Nat) : List Int × List Int := (List.range k).foldl (mStep c m s) (l, [])
theorem mRow_succ (c : List Int) (m : MchV) (s : Nat) (l : List Int) (k : Nat) : mRow c m s l (k + 1) = mStep c m s (mRow c m s l k) k := by
  unfold mRow; rw [List.range_succ, List.foldl_append]; rfl
noncomputable def mIter (c : List Int) (m : MchV) (start : Int) : Nat → List Int × List (List Int)
  | 0 => ([start], [])
  | i + 1 => let p := mIter c m start i
    if i < p.1.length then
      let q := mRow c m (nth p.1 i).toNat p.1 m.letters
      (q.1, p.2 ++ [q.2])
    else p
/-- Classes that tell states apart as languages do, on a set of states that is closed. -/
structure ClsOk (c : List Int) (m : MchV) (R : Nat → Prop) : Prop where
  lt : ∀ s, R s → s < m.next.length
  cl : ∀ s a, R s → a < m.letters → 0 ≤ goV m s a → R (goV m s a).toNat
  neg : ∀ s, R s → (nth c s < 0 ↔ Void (langV m s))
  eq : ∀ s t, R s → R t → 0 ≤ nth c s → (nth c t = nth c s ↔ langV m t = langV m s)
structure MItOk (c : List Int) (m : MchV) (R : Nat → Prop) (p : List Int) : Prop where
  r : ∀ s ∈ p, 0 ≤ s ∧ R s.toNat
  nd : (p.map (clX c)).Nodup
theorem mItOk_len {c : List Int} {m : MchV} {R : Nat → Prop} (h : ClsOk c m R) {p : List Int} (hp : MItOk c m R p) : p.length ≤ m.next.length := by
  have h1 : (p.map Int.toNat).Nodup := by
    have hn := hp.nd
    rw [List.nodup_iff_pairwise_ne, List.pairwise_map] at hn ⊢
    refine hn.imp_of_mem fun {x y} hx hy hxy e => hxy ?_
    rw [show x = y by have := hp.r x hx; have := hp.r y hy; omega]
  have := nodup_bound m.next.length (p.map Int.toNat) h1 fun x hx => by
    obtain ⟨s, hs, rfl⟩ := List.mem_map.1 hx
    exact h.lt _ (hp.r s hs).2
  simpa using this
section
variable {c : List Int} {m : MchV} {R : Nat → Prop} (hc : ClsOk c m R)
include hc
theorem cls_void {s a : Nat} (hs : R s) (ha : a < m.letters) : clX c (goV m s a) < 0 ↔ Void (langV m (goV m s a)) := by
  unfold clX
  by_cases h : goV m s a < 0
  · rw [if_pos h]; exact ⟨fun _ => lang_neg m h, fun _ => by omega⟩
  · rw [if_neg h, hc.neg _ (hc.cl s a hs ha (by omega)), Int.toNat_of_nonneg (by omega)]
theorem cls_same {t : Int} (ht : 0 ≤ t ∧ R t.toNat) {s a : Nat} (hs : R s) (ha : a < m.letters) (h : ¬ clX c (goV m s a) < 0) : clX c t = clX c (goV m s a) ↔ langV m t = langV m (goV m s a) := by
  unfold clX at h ⊢
  by_cases h1 : goV m s a < 0
  · rw [if_pos h1] at h; omega
  · rw [if_neg h1] at h ⊢
    rw [if_neg (by omega), hc.eq _ _ (hc.cl s a hs ha (by omega)) ht.2 (by omega), Int.toNat_of_nonneg ht.1, Int.toNat_of_nonneg (show 0 ≤ goV m s a by omega)]
theorem mRow_ok {s : Nat} (hs : R s) {l : List Int} (hl : MItOk c m R l) : ∀ k, k ≤ m.letters → MItOk c m R (mRow c m s l k).1 ∧ (∃ t, (mRow c m s l k).1 = l ++ t) ∧ (mRow c m s l k).2.length = k ∧ (mRow c m s l k).1.length ≤ l.length + k ∧ (mRow c m s l k).1.map (langV m) = (cRow (langV m s) (l.map (langV m)) k).1 ∧ (mRow c m s l k).2 = (cRow (langV m s) (l.map (langV m)) k).2 ∧ ∀ y ∈ (mRow c m s l k).2, -1 ≤ y ∧ y < (mRow c m s l k).1.length
  | 0, _ => ⟨hl, ⟨[], by simp [mRow]⟩, by simp [mRow], by simp [mRow], by simp [mRow, cRow], by simp [mRow, cRow], by simp [mRow]⟩
  | k + 1, hk => by
    obtain ⟨h1, ⟨t, h2⟩, h3, h4, h5, h6, h7⟩ := mRow_ok hs hl k (by omega)
    rw [mRow_succ, cRow_succ]
    generalize mRow c m s l k = p at *
    generalize cRow (langV m s) (l.map (langV m)) k = q at *
    have hd := lang_der m (s := (s : Int)) (by omega) (show k < m.letters by omega)
    rw [Int.toNat_natCast] at hd
    have hv := cls_void hc hs (show k < m.letters by omega)
    unfold mStep cStep
    rw [hd]
    by_cases h : clX c (goV m s k) < 0
    · rw [if_pos h, if_pos (hv.1 h)]
      refine ⟨h1, ⟨t, h2⟩, by simp [h3], by simp only; omega, h5, by simp only [h6], fun y hy => ?_⟩
      simp only [List.mem_append, List.mem_singleton] at hy
      rcases hy with hy | rfl
      · exact h7 y hy
      · simp only; omega
    · rw [if_neg h, if_neg fun e => h (hv.2 e)]
      have hsame := fun t ht => cls_same hc (h1.r t ht) hs (show k < m.letters by omega) h
      have hg : ¬ goV m s k < 0 := fun e => h (by unfold clX; rw [if_pos e]; omega)
      by_cases h8 : clX c (goV m s k) ∈ p.1.map (clX c)
      · have h9 : langV m (goV m s k) ∈ q.1 := by rw [← h5]; exact (mem_map_same hsame).1 h8
        rw [if_pos h8, if_pos h9, ixOf_map hsame, h5]
        refine ⟨h1, ⟨t, h2⟩, by simp [h3], by simp only; omega, rfl, by simp only [h6], fun y hy => ?_⟩
        simp only [List.mem_append, List.mem_singleton] at hy
        rcases hy with hy | rfl
        · exact h7 y hy
        · have := ixOf_lt h9
          rw [← h5] at this ⊢
          simp at this ⊢; omega
      · have h9 : ¬ langV m (goV m s k) ∈ q.1 := by rw [← h5]; exact fun e => h8 ((mem_map_same hsame).2 e)
        have h10 : q.1.length = p.1.length := by rw [← h5]; simp
        rw [if_neg h8, if_neg h9, h10]
        refine ⟨⟨fun y hy => ?_, ?_⟩, ⟨t ++ [goV m s k], by simp [h2]⟩, by simp [h3], by simp; omega, by simp [h5], by simp only [h6], fun y hy => ?_⟩
        · simp only [List.mem_append, List.mem_singleton] at hy
          rcases hy with hy | rfl
          · exact h1.r y hy
          · exact ⟨by omega, hc.cl s k hs (by omega) (by omega)⟩
        · rw [List.map_append]
          exact List.nodup_append.2 ⟨h1.nd, by simp, fun u hu v hv e => by
            simp only [List.map_cons, List.map_nil, List.mem_singleton] at hv
            subst e; subst hv; exact h8 hu⟩
        · simp only [List.mem_append, List.mem_singleton] at hy
          simp only [List.length_append, List.length_cons, List.length_nil]
          rcases hy with hy | rfl
          · have := h7 y hy; omega
          · omega
theorem mIter_ok {start : Int} (h0 : 0 ≤ start) (hst : R start.toNat) : ∀ i, MItOk c m R (mIter c m start i).1 ∧ cIter m.letters (langV m start) i = ((mIter c m start i).1.map (langV m), (mIter c m start i).2) ∧ 0 < (mIter c m start i).1.length ∧ (mIter c m start i).2.length ≤ i
  | 0 => ⟨⟨fun s hs => by
      simp only [mIter, List.mem_singleton] at hs; subst hs; exact ⟨h0, hst⟩, by simp [mIter]⟩, by simp [mIter, cIter], by simp [mIter], by simp [mIter]⟩
  | i + 1 => by
    obtain ⟨h1, h2, h3, h4⟩ := mIter_ok h0 hst i
    rw [mIter, cIter]
    rw [h2]
    generalize mIter c m start i = p at *
    simp only [List.length_map]
    by_cases hlt : i < p.1.length
    · rw [if_pos hlt, if_pos hlt]
      have hmem : nth p.1 i ∈ p.1 := by rw [nth_at hlt]; exact List.getElem_mem hlt
      obtain ⟨g1, g2⟩ := h1.r _ hmem
      obtain ⟨k1, ⟨t, k2⟩, k3, _, k5, k6, _⟩ := mRow_ok hc g2 h1 m.letters (Nat.le_refl _)
      have e : (p.1.map (langV m)).getD i (langV m start) = langV m (((nth p.1 i).toNat : Nat) : Int) := by
        rw [Int.toNat_of_nonneg g1, getD_lt (by simpa using hlt), nth_at hlt]; simp
      rw [e]
      refine ⟨k1, ?_, ?_, by simp; omega⟩
      · simp only [← k5, ← k6]
      · simp only; rw [k2]; simp; omega
    · rw [if_neg hlt, if_neg hlt]
      exact ⟨h1, rfl, h3, by omega⟩
/-- What is found is the canonical machine. -/
theorem mIter_canon {start : Int} (h0 : 0 ≤ start) (hst : R start.toNat) {N : Nat} {l : List Int} {rows : List (List Int)} (h : mIter c m start N = (l, rows)) (hN : l.length = N) : IsCanon m.letters (langV m start) rows (l.map fun s => finV m s) := by
  obtain ⟨_, h2, _⟩ := mIter_ok hc h0 hst N
  rw [h] at h2
  exact ⟨N, _, h2, by simp [hN], by simp [Function.comp_def, langV]⟩
end
/-- The machine that accepts nothing. -/
theorem canon_void {L : Nat} {l : Lang} (h : Void l) : IsCanon L l [List.replicate L (-1)] [false] := by
  have hd : ∀ a, Void (der l a) := fun a w => h (a :: w)
  have hr : ∀ k, cRow l [l] k = ([l], List.replicate k (-1)) := by
    intro k
    induction k with
    | zero => rfl
    | succ k ih => rw [cRow_succ, ih, cStep, if_pos (hd k)]; simp [List.replicate_succ']
  refine ⟨1, [l], ?_, rfl, by simp [h []]⟩
  simp [cIter, hr]
end Go.AM
