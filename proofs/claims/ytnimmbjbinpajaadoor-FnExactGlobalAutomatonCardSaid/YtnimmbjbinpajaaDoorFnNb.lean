/-
  Classes made finer until they stay: they tell states apart as languages do.
-/
import Derived.Test.YtnimmbjbinpajaaDoorFnNa
set_option linter.unusedVariables false
set_option linter.unusedSimpArgs false
set_option linter.unusedSectionVars false
namespace Go.AM
/-- What a state's new class is told by: its class, and those of the states to which the letters lead. -/
def keyV (c : List Int) (m : MchV) (s : Nat) : List Int := nth c s :: (List.range m.letters).map fun a => clX c (goV m s a)
open Classical in
noncomputable def nStep (c : List Int) (m : MchV) (p : List (List Int) × List Int) (s : Nat) : List (List Int) × List Int :=
  if nth c s < 0 then (p.1, p.2 ++ [-1]) else if keyV c m s ∈ p.1 then (p.1, p.2 ++ [(ixOf p.1 (keyV c m s) : Int)]) else (p.1 ++ [keyV c m s], p.2 ++ [(p.1.length : Int)])
noncomputable def namesV (c : List Int) (m : MchV) (k : Nat) : List (List Int) × List Int := (List.range k).foldl (nStep c m) ([], [])
theorem namesV_succ (c : List Int) (m : MchV) (k : Nat) : namesV c m (k + 1) = nStep c m (namesV c m k) k := by
  unfold namesV; rw [List.range_succ, List.foldl_append]; rfl
structure NamOk (c : List Int) (m : MchV) (k : Nat) (p : List (List Int) × List Int) : Prop where
  len : p.2.length = k
  nd : p.1.Nodup
  le : p.1.length ≤ k
  no : ∀ s, s < k → nth c s < 0 → nth p.2 s = -1
  ys : ∀ s, s < k → 0 ≤ nth c s → ∃ j : Nat, nth p.2 s = (j : Int) ∧ ∃ h : j < p.1.length, p.1[j] = keyV c m s
  all : ∀ K ∈ p.1, ∃ s, s < k ∧ 0 ≤ nth c s ∧ keyV c m s = K
theorem namesV_ok (c : List Int) (m : MchV) : ∀ k, NamOk c m k (namesV c m k)
  | 0 => ⟨rfl, by simp [namesV], by simp [namesV], fun s hs => by omega, fun s hs => by omega, fun K hK => by simp [namesV] at hK⟩
  | k + 1 => by
    have ih := namesV_ok c m k
    rw [namesV_succ]
    generalize namesV c m k = p at *
    have hl := ih.len
    unfold nStep
    split
    · rename_i hn
      refine ⟨by simp [hl], ih.nd, by have := ih.le; simp only; omega, fun s hs h => ?_, fun s hs h => ?_, fun K hK => ?_⟩
      · by_cases e : s = k
        · subst e; simp only; rw [← hl]; exact nth_snoc_last
        · simp only; rw [nth_snoc (by omega)]; exact ih.no s (by omega) h
      · have e : s ≠ k := by rintro rfl; omega
        simp only; rw [nth_snoc (by omega)]; exact ih.ys s (by omega) h
      · obtain ⟨s, h1, h2⟩ := ih.all K hK
        exact ⟨s, by omega, h2⟩
    · rename_i hn
      split
      · rename_i hm
        refine ⟨by simp [hl], ih.nd, by have := ih.le; simp only; omega, fun s hs h => ?_, fun s hs h => ?_, fun K hK => ?_⟩
        · have e : s ≠ k := by rintro rfl; omega
          simp only; rw [nth_snoc (by omega)]; exact ih.no s (by omega) h
        · by_cases e : s = k
          · subst e
            exact ⟨_, by simp only; rw [← hl]; exact nth_snoc_last, ixOf_lt hm, ixOf_at _⟩
          · simp only; rw [nth_snoc (by omega)]; exact ih.ys s (by omega) h
        · obtain ⟨s, h1, h2⟩ := ih.all K hK
          exact ⟨s, by omega, h2⟩
      · rename_i hm
        refine ⟨by simp [hl], List.nodup_append.2 ⟨ih.nd, by simp, fun u hu v hv e => by rw [List.mem_singleton] at hv; subst hv; subst e; exact hm hu⟩, by have := ih.le; simp; omega, fun s hs h => ?_, fun s hs h => ?_, fun K hK => ?_⟩
        · have e : s ≠ k := by rintro rfl; omega
          simp only; rw [nth_snoc (by omega)]; exact ih.no s (by omega) h
        · by_cases e : s = k
          · subst e
            exact ⟨p.1.length, by simp only; rw [← hl]; exact nth_snoc_last, by simp, by simp⟩
          · simp only; rw [nth_snoc (by omega)]
            obtain ⟨j, j1, j2, j3⟩ := ih.ys s (by omega) h
            exact ⟨j, j1, by simp; omega, by rw [List.getElem_append_left j2]; exact j3⟩
        · simp only [List.mem_append, List.mem_singleton] at hK
          rcases hK with hK | rfl
          · obtain ⟨s, h1, h2⟩ := ih.all K hK
            exact ⟨s, by omega, h2⟩
          · exact ⟨k, by omega, by omega, rfl⟩
theorem nam_same {c : List Int} {m : MchV} {k : Nat} {p : List (List Int) × List Int} (h : NamOk c m k p) {s t : Nat} (hs : s < k) (ht : t < k) (h1 : 0 ≤ nth c s) (h2 : 0 ≤ nth c t) : nth p.2 s = nth p.2 t ↔ keyV c m s = keyV c m t := by
  obtain ⟨i, i1, i2, i3⟩ := h.ys s hs h1
  obtain ⟨j, j1, j2, j3⟩ := h.ys t ht h2
  rw [i1, j1, ← i3, ← j3]
  constructor
  · intro e
    have : i = j := by omega
    subst this; rfl
  · intro e
    have := (List.getElem_inj h.nd).1 e
    omega
/-- A list that holds all numbers below its length holds none twice. -/
theorem nodup_of_onto : ∀ (l : List Int) , (∀ k : Nat, k < l.length → (k : Int) ∈ l) → l.Nodup := by
  intro l h
  apply Classical.byContradiction
  intro hn
  have key : ∀ l : List Int, ¬ l.Nodup → ∃ l' : List Int, l'.length < l.length ∧ ∀ x, x ∈ l → x ∈ l' := by
    intro l
    induction l with
    | nil => intro h; exact absurd List.nodup_nil h
    | cons x l ih =>
      intro hn
      by_cases hx : x ∈ l
      · exact ⟨l, by simp, fun y hy => by rcases List.mem_cons.1 hy with rfl | hy; exact hx; exact hy⟩
      · obtain ⟨l', h1, h2⟩ := ih fun h => hn (List.nodup_cons.2 ⟨hx, h⟩)
        exact ⟨x :: l', by simp; omega, fun y hy => by
          rcases List.mem_cons.1 hy with rfl | hy
          · simp
          · simp [h2 y hy]⟩
  obtain ⟨l', h1, h2⟩ := key l hn
  have h3 : ∀ (n : Nat) (l' : List Int), (∀ k : Nat, k < n → (k : Int) ∈ l') → n ≤ l'.length := by
    intro n
    induction n with
    | zero => intro l' _; omega
    | succ n ih =>
      intro l' h
      have hm := h n (by omega)
      have := ih (l'.erase (n : Int)) fun k hk => (List.mem_erase_of_ne (by omega)).2 (h k (by omega))
      have h4 := List.length_erase_of_mem hm
      have h5 := List.length_pos_of_mem hm
      omega
  have := h3 l.length l' fun k hk => h2 _ (h k hk)
  omega
/-- What holds of the classes in each round. -/
structure RefOk (c : List Int) (m : MchV) (lv : Nat → Prop) : Prop where
  len : c.length = m.next.length
  lv : ∀ s, s < m.next.length → (0 ≤ nth c s ↔ lv s)
  lo : ∀ s, s < m.next.length → -1 ≤ nth c s
  fin : ∀ s t, s < m.next.length → t < m.next.length → 0 ≤ nth c s → nth c s = nth c t → finV m s = finV m t
  df : ∀ s t, s < m.next.length → t < m.next.length → 0 ≤ nth c s → 0 ≤ nth c t → langV m s = langV m t → nth c s = nth c t
/-- The classes are the numbers below `many`. -/
def OntoC (c : List Int) (n many : Nat) : Prop := (∀ k, k < many → ∃ s, s < n ∧ nth c s = (k : Int)) ∧ ∀ s, s < n → nth c s < many
/-- Which states matter: they lead to a final one, and those to which they lead matter if they do. -/
structure LiveOk (m : MchV) (lv : Nat → Prop) : Prop where
  nv : ∀ s, s < m.next.length → lv s → ¬ Void (langV m s)
  go : ∀ s a, s < m.next.length → lv s → a < m.letters → 0 ≤ goV m s a → (lv (goV m s a).toNat ↔ ¬ Void (langV m (goV m s a)))
section
variable {m : MchV} (hm : MchOk m) {lv : Nat → Prop} (hv : LiveOk m lv)
include hm hv
theorem clX_void {c : List Int} (hc : RefOk c m lv) {s a : Nat} (hs : s < m.next.length) (h : lv s) (ha : a < m.letters) : clX c (goV m s a) < 0 ↔ Void (langV m (goV m s a)) := by
  have hr := hm.rr s hs a ha
  unfold clX
  by_cases hg : goV m s a < 0
  · rw [if_pos hg]; exact ⟨fun _ => lang_neg m hg, fun _ => by omega⟩
  · rw [if_neg hg]
    have h1 := hc.lv (goV m s a).toNat (by omega)
    have h2 := hv.go s a hs h ha (by omega)
    constructor
    · intro h3
      apply Classical.byContradiction
      intro h4
      have := h1.2 (h2.2 h4); omega
    · intro h3
      have h4 : ¬ lv (goV m s a).toNat := fun h => h2.1 h h3
      have : ¬ 0 ≤ nth c (goV m s a).toNat := fun h => h4 (h1.1 h)
      omega
theorem key_of_lang {c : List Int} (hc : RefOk c m lv) {s t : Nat} (hs : s < m.next.length) (ht : t < m.next.length) (h1 : lv s) (h2 : lv t) (h : langV m s = langV m t) : keyV c m s = keyV c m t := by
  have g1 := (hc.lv s hs).2 h1
  have g2 := (hc.lv t ht).2 h2
  unfold keyV
  rw [hc.df s t hs ht g1 g2 h]
  congr 1
  apply List.map_congr_left
  intro a ha
  have ha := List.mem_range.1 ha
  have d1 := lang_der m (s := (s : Int)) (by omega) ha
  have d2 := lang_der m (s := (t : Int)) (by omega) ha
  rw [Int.toNat_natCast] at d1 d2
  have hl : langV m (goV m s a) = langV m (goV m t a) := by rw [← d1, ← d2, h]
  have v1 := clX_void hm hv hc hs h1 ha
  have v2 := clX_void hm hv hc ht h2 ha
  have r1 := hm.rr s hs a ha
  have r2 := hm.rr t ht a ha
  have lo : ∀ r : Int, -1 ≤ r → r < m.next.length → -1 ≤ clX c r := fun r h3 h4 => by
    unfold clX
    split
    · omega
    · exact hc.lo _ (by omega)
  by_cases e : clX c (goV m s a) < 0
  · have e2 := v2.2 (by rw [← hl]; exact v1.1 e)
    have := lo _ r1.1 r1.2
    have := lo _ r2.1 r2.2
    omega
  · have e2 : ¬ clX c (goV m t a) < 0 := fun h3 => e (v1.2 (by rw [hl]; exact v2.1 h3))
    unfold clX at e e2 ⊢
    split at e
    · omega
    · rename_i e3
      split at e2
      · omega
      · rename_i e4
        rw [if_neg e3, if_neg e4]
        exact hc.df _ _ (by omega) (by omega) (by omega) (by omega) (by rw [Int.toNat_of_nonneg (by omega), Int.toNat_of_nonneg (by omega)]; exact hl)
theorem ref_step {c : List Int} (hc : RefOk c m lv) {p : List (List Int) × List Int} (hp : NamOk c m m.next.length p) : RefOk p.2 m lv ∧ OntoC p.2 m.next.length p.1.length := by
  have hsgn : ∀ s, s < m.next.length → (0 ≤ nth p.2 s ↔ 0 ≤ nth c s) := fun s hs => by
    constructor
    · intro h
      apply Classical.byContradiction
      intro h2
      have := hp.no s hs (by omega); omega
    · intro h
      obtain ⟨j, j1, _⟩ := hp.ys s hs h
      omega
  refine ⟨⟨hp.len, fun s hs => (hsgn s hs).trans (hc.lv s hs), fun s hs => ?_, fun s t hs ht h1 h2 => ?_, fun s t hs ht h1 h2 h => ?_⟩, fun k hk => ?_, fun s hs => ?_⟩
  · by_cases h : nth c s < 0
    · rw [hp.no s hs h]; omega
    · obtain ⟨j, j1, _⟩ := hp.ys s hs (by omega)
      omega
  · have g1 := (hsgn s hs).1 h1
    have g2 := (hsgn t ht).1 (by omega)
    have := (nam_same hp hs ht g1 g2).1 h2
    unfold keyV at this
    exact hc.fin s t hs ht g1 (List.cons.inj this).1
  · have g1 := (hsgn s hs).1 h1
    have g2 := (hsgn t ht).1 h2
    exact (nam_same hp hs ht g1 g2).2 (key_of_lang hm hv hc hs ht ((hc.lv s hs).1 g1) ((hc.lv t ht).1 g2) h)
  · obtain ⟨s, s1, s2, s3⟩ := hp.all _ (List.getElem_mem hk)
    obtain ⟨j, j1, j2, j3⟩ := hp.ys s s1 s2
    have : j = k := (List.getElem_inj hp.nd).1 (j3.trans s3)
    subst this
    exact ⟨s, s1, j1⟩
  · by_cases h : nth c s < 0
    · rw [hp.no s hs h]; omega
    · obtain ⟨j, j1, j2, _⟩ := hp.ys s hs (by omega)
      omega
theorem ref_more {c : List Int} {p : List (List Int) × List Int} (hp : NamOk c m m.next.length p) {many : Nat} (ho : OntoC c m.next.length many) : many ≤ p.1.length := by
  have : ∀ k : Nat, k < many → (k : Int) ∈ p.1.map (fun K => K.headD 0) := fun k hk => by
    obtain ⟨s, s1, s2⟩ := ho.1 k hk
    obtain ⟨j, j1, j2, j3⟩ := hp.ys s s1 (by omega)
    exact List.mem_map.2 ⟨keyV c m s, by rw [← j3]; exact List.getElem_mem j2, by simp [keyV, s2]⟩
  have h3 : ∀ (n : Nat) (l' : List Int), (∀ k : Nat, k < n → (k : Int) ∈ l') → n ≤ l'.length := by
    intro n
    induction n with
    | zero => intro l' _; omega
    | succ n ih =>
      intro l' h
      have hm := h n (by omega)
      have := ih (l'.erase (n : Int)) fun k hk => (List.mem_erase_of_ne (by omega)).2 (h k (by omega))
      have h4 := List.length_erase_of_mem hm
      have h5 := List.length_pos_of_mem hm
      omega
  simpa using h3 many _ this
/-- No more classes than before: then states of one class have one key. -/
theorem ref_key {c : List Int} {p : List (List Int) × List Int} (hp : NamOk c m m.next.length p) (ho : OntoC c m.next.length p.1.length) {s t : Nat} (hs : s < m.next.length) (ht : t < m.next.length) (h0 : 0 ≤ nth c s) (h : nth c s = nth c t) : keyV c m s = keyV c m t := by
  have hnd : (p.1.map fun K => K.headD 0).Nodup := by
    apply nodup_of_onto
    intro k hk
    obtain ⟨s, s1, s2⟩ := ho.1 k (by simpa using hk)
    obtain ⟨j, j1, j2, j3⟩ := hp.ys s s1 (by omega)
    exact List.mem_map.2 ⟨keyV c m s, by rw [← j3]; exact List.getElem_mem j2, by simp [keyV, s2]⟩
  obtain ⟨i, i1, i2, i3⟩ := hp.ys s hs h0
  obtain ⟨j, j1, j2, j3⟩ := hp.ys t ht (by omega)
  have e : (p.1.map fun K => K.headD 0)[i]'(by simpa using i2) = (p.1.map fun K => K.headD 0)[j]'(by simpa using j2) := by
    simp only [List.getElem_map, i3, j3]
    simp [keyV, h]
  have := (List.getElem_inj hnd).1 e
  subst this
  rw [← i3, ← j3]
/-- The end: the classes tell states apart as languages do. -/
theorem ref_end {c : List Int} (hc : RefOk c m lv) {p : List (List Int) × List Int} (hp : NamOk c m m.next.length p) (ho : OntoC c m.next.length p.1.length) {s t : Nat} (hs : s < m.next.length) (ht : t < m.next.length) (h1 : lv s) (h2 : lv t) : nth p.2 s = nth p.2 t ↔ langV m s = langV m t := by
  have key : ∀ w (s t : Nat), s < m.next.length → t < m.next.length → lv s → lv t → nth c s = nth c t → langV m s w = langV m t w := by
    intro w
    induction w with
    | nil =>
      intro s t hs ht h1 h2 h
      simp only [langV]
      exact hc.fin s t hs ht ((hc.lv s hs).2 h1) h
    | cons a w ih =>
      intro s t hs ht h1 h2 h
      by_cases ha : a < m.letters
      · have hk := ref_key hm hv hp ho hs ht ((hc.lv s hs).2 h1) h
        unfold keyV at hk
        have hk2 := (List.cons.inj hk).2
        have hk3 : clX c (goV m s a) = clX c (goV m t a) := by
          have := List.map_inj_left.1 hk2 a (List.mem_range.2 ha)
          exact this
        have e1 : langV m s (a :: w) = langV m (goV m s a) w := by
          have := lang_der m (s := (s : Int)) (by omega) ha
          rw [Int.toNat_natCast] at this
          rw [← this]; rfl
        have e2 : langV m t (a :: w) = langV m (goV m t a) w := by
          have := lang_der m (s := (t : Int)) (by omega) ha
          rw [Int.toNat_natCast] at this
          rw [← this]; rfl
        rw [e1, e2]
        have v1 := clX_void hm hv hc hs h1 ha
        have v2 := clX_void hm hv hc ht h2 ha
        have r1 := hm.rr s hs a ha
        have r2 := hm.rr t ht a ha
        by_cases e : clX c (goV m s a) < 0
        · rw [v1.1 e w, v2.1 (by omega) w]
        · have e' : ¬ clX c (goV m t a) < 0 := by omega
          unfold clX at e e' hk3
          split at e
          · omega
          · split at e'
            · omega
            · rename_i e3 e4
              rw [if_neg e3, if_neg e4] at hk3
              have := ih (goV m s a).toNat (goV m t a).toNat (by omega) (by omega) ((hc.lv _ (by omega)).1 (by omega)) ((hc.lv _ (by omega)).1 (by omega)) hk3
              rw [Int.toNat_of_nonneg (by omega), Int.toNat_of_nonneg (by omega)] at this
              exact this
      · have f1 : ¬ (s : Int) < 0 := by omega
        have f2 : ¬ (t : Int) < 0 := by omega
        simp [langV, ha]
  have g1 := (hc.lv s hs).2 h1
  have g2 := (hc.lv t ht).2 h2
  rw [nam_same hp hs ht g1 g2]
  constructor
  · intro h
    unfold keyV at h
    funext w
    exact key w s t hs ht h1 h2 (List.cons.inj h).1
  · intro h
    exact key_of_lang hm hv hc hs ht h1 h2 h
/-- So they serve the search. -/
theorem ref_cls {c : List Int} (hc : RefOk c m lv) {p : List (List Int) × List Int} (hp : NamOk c m m.next.length p) (ho : OntoC c m.next.length p.1.length) {R : Nat → Prop} (hR : ∀ s, R s → s < m.next.length) (hRc : ∀ s a, R s → a < m.letters → 0 ≤ goV m s a → R (goV m s a).toNat) (hRv : ∀ s, R s → (lv s ↔ ¬ Void (langV m s))) : ClsOk p.2 m R := by
  have hsgn : ∀ s, s < m.next.length → (0 ≤ nth p.2 s ↔ lv s) := fun s hs => (ref_step hm hv hc hp).1.lv s hs
  refine ⟨hR, hRc, fun s hs => ?_, fun s t hs ht h => ?_⟩
  · have h1 := hsgn s (hR s hs)
    have h2 := hRv s hs
    constructor
    · intro h
      apply Classical.byContradiction
      intro h3
      have := h1.2 (h2.2 h3); omega
    · intro h
      have : ¬ lv s := fun h3 => h2.1 h3 h
      have : ¬ 0 ≤ nth p.2 s := fun h3 => this (h1.1 h3)
      omega
  · have l1 := (hsgn s (hR s hs)).1 h
    by_cases h2 : lv t
    · exact (ref_end hm hv hc hp ho (hR t ht) (hR s hs) h2 l1)
    · constructor
      · intro e
        exact absurd ((hsgn t (hR t ht)).1 (by omega)) h2
      · intro e
        exact absurd ((hRv t ht).2 (by rw [e]; exact (hRv s hs).1 l1)) h2
end
/-- The first classes: which states are final. -/
def cls0 (m : MchV) (lv : Nat → Bool) (s : Nat) : Int := if lv s then (if finV m s then 1 else 0) else -1
theorem ref_start {m : MchV} {lv : Nat → Bool} {c : List Int} (hl : c.length = m.next.length) (hc : ∀ s, s < m.next.length → nth c s = cls0 m lv s) : RefOk c m (fun s => lv s = true) := by
  refine ⟨hl, fun s hs => ?_, fun s hs => ?_, fun s t hs ht h1 h2 => ?_, fun s t hs ht h1 h2 h => ?_⟩
  · rw [hc s hs]; unfold cls0
    cases lv s <;> simp
    split <;> omega
  · rw [hc s hs]; unfold cls0
    split
    · split <;> omega
    · omega
  · rw [hc s hs] at h1 h2
    rw [hc t ht] at h2
    unfold cls0 at h1 h2
    cases h3 : lv s
    · simp [h3] at h1
    · cases h4 : lv t
      · simp [h3, h4] at h2
        split at h2 <;> omega
      · simp [h3, h4] at h2
        cases h5 : finV m s <;> cases h6 : finV m t <;> simp [h5, h6] at h2 ⊢
  · rw [hc s hs] at h1 ⊢
    rw [hc t ht] at h2 ⊢
    have hf : finV m s = finV m t := by
      have := congrFun h []
      simpa [langV] using this
    unfold cls0 at h1 h2 ⊢
    cases h3 : lv s
    · simp [h3] at h1
    · cases h4 : lv t
      · simp [h4] at h2
      · simp [hf]
end Go.AM
