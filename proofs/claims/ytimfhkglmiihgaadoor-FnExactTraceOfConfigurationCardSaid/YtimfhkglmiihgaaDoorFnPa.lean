/-
  The word of a configuration is one of its events' labels: there is always a next event.
-/
import Derived.Test.YtimfhkglmiihgaaDoorFnOe
import Derived.Test.YtimfhkglmiihgaaDoorFnY
set_option linter.unusedVariables false
set_option linter.unusedSimpArgs false
set_option maxRecDepth 100000
namespace Go.AM
open Go.Proofs
theorem popc_card : ∀ (k n : Nat), n < 2 ^ k → popc n = ((List.range k).filter fun i => n.testBit i).length
  | 0, n, h => by
    have : n = 0 := by simpa using h
    subst this; simp [popc_zero]
  | k + 1, n, h => by
    have ih := popc_card k (n / 2) (by rw [Nat.pow_succ] at h; omega)
    rw [popc_step, ih, List.range_succ_eq_map, List.filter_cons, List.filter_map]
    have e : (fun i => n.testBit i) ∘ Nat.succ = fun i => (n / 2).testBit i := by
      funext i; simp only [Function.comp, Nat.succ_eq_add_one, Nat.testBit_succ]
    rw [e]
    have e0 : n.testBit 0 = decide (n % 2 = 1) := Nat.testBit_zero n
    by_cases h2 : n % 2 = 1
    · rw [if_pos (by rw [e0]; simpa using h2), List.length_cons, List.length_map]; omega
    · rw [if_neg (by rw [e0]; simpa using h2), List.length_map]; omega
theorem popc_cardN {n : Nat} (hn : n ≤ 24) {c : Int} (h : isM n c = true) : popc c.toNat = cardN n c := by
  obtain ⟨hM, hb⟩ := isM_spec (by omega) h
  unfold isM at h
  simp only [Bool.and_eq_true, decide_eq_true_eq] at h
  rw [full_eq (by omega)] at h
  have h2 := Nat.two_pow_pos n
  exact popc_card n c.toNat (by omega)
theorem filter_lt {p q : Nat → Bool} (h : ∀ i, p i = true → q i = true) {j n : Nat} (hj : j < n) (hq : q j = true) (hp : p j = false) : ((List.range n).filter p).length < ((List.range n).filter q).length := by
  have h1 := card_off (p := q) (q := fun i => q i && i != j) (e := j) hq (by simp) (fun i hi => by simp [hi]) n
  rw [if_pos hj] at h1
  have h2 := filter_len_le (p := p) (q := fun i => q i && i != j) (fun i hi => by
    simp only [Bool.and_eq_true, bne_iff_ne]
    exact ⟨h i hi, fun e => by subst e; rw [hi] at hp; cases hp⟩) (List.range n)
  omega
theorem cand_min {x : StrucV} (hs : isStructureV x = true) {c s : Int} (hc : isM x.labels.length c = true) (hcf : isConf x c = true) (hin : inC x c s) : ∀ (k e : Nat), cardN x.labels.length (nth x.below e) = k → e < x.labels.length → tb c e = true → tb s e = false → candL x c s ≠ [] := by
  obtain ⟨h1, h2, h3⟩ := struc_len hs
  obtain ⟨hMs, hbs⟩ := isM_spec (by omega) hin.1
  obtain ⟨hMc, hbc⟩ := isM_spec (by omega) hc
  intro k
  induction k using Nat.strongRecOn with
  | _ k ih =>
    intro e hk he htc hts
    obtain ⟨mb, mc, bb, bc, _, _⟩ := struc_M hs he
    by_cases hz : ibits .andNot .i64 (nth x.below e) s = 0
    · have hmem : e ∈ candL x c s := by
        unfold candL canS
        simp [he, htc, hts, hz]
      intro h; rw [h] at hmem; cases hmem
    · rw [eq_zero_iff (M_andNot mb hMs)] at hz
      obtain ⟨f, hf⟩ := Classical.not_forall.1 hz
      rw [tb_andNot mb hMs] at hf
      have hf' : tb (nth x.below e) f = true ∧ tb s f = false := by
        cases h5 : tb (nth x.below e) f <;> cases h6 : tb s f <;> simp [h5, h6] at hf ⊢
      have hfn : f < x.labels.length := Nat.lt_of_not_le fun h => by rw [bb f h] at hf'; cases hf'.1
      obtain ⟨mbf, _, bbf, _, _, _⟩ := struc_M hs hfn
      have hcfg := isConf_iff.1 hcf e he htc
      unfold cfgOk at hcfg
      simp only [Bool.and_eq_true, beq_iff_eq] at hcfg
      have hcf2 : tb c f = true := by
        have := (eq_zero_iff (M_andNot mb hMc)).1 hcfg.1 f
        rw [tb_andNot mb hMc, hf'.1] at this
        simpa using this
      have hp := (isStruc_iff.1 hs).2.2.2.2 e he f hfn
      unfold pairOk sub2 at hp
      rw [hf'.1] at hp
      simp only [Bool.and_eq_true, Bool.not_true, Bool.false_or, beq_iff_eq] at hp
      have hsub := (eq_zero_iff (M_andNot mbf mb)).1 hp.1.1
      have hev := (isStruc_iff.1 hs).2.2.2.1 f hfn
      unfold evOk at hev
      simp only [Bool.and_eq_true, Bool.not_eq_true'] at hev
      have hlt := filter_lt (p := fun i => tb (nth x.below f) i) (q := fun i => tb (nth x.below e) i) (fun i hi => by
        have := hsub i
        rw [tb_andNot mbf mb, hi] at this
        simpa using this) hfn hf'.1 hev.1.2
      exact ih (cardN x.labels.length (nth x.below f)) (by unfold cardN at hk ⊢; omega) f rfl hfn hcf2 hf'.2
theorem cand_ex {x : StrucV} (hs : isStructureV x = true) {c s : Int} (hc : isM x.labels.length c = true) (hcf : isConf x c = true) (hin : inC x c s) (h : remN x.labels.length c s ≠ 0) : candL x c s ≠ [] := by
  unfold remN at h
  obtain ⟨e, he⟩ := List.exists_mem_of_ne_nil _ (fun h2 : (List.range x.labels.length).filter (fun i => tb c i && !tb s i) = [] => h (by rw [h2]; rfl))
  simp only [List.mem_filter, List.mem_range, Bool.and_eq_true, Bool.not_eq_true'] at he
  exact cand_min hs hc hcf hin _ e rfl he.1 he.2.1 he.2.2
/-- Parts of `c` that lack `r` of its events. -/
def lvOk (x : StrucV) (c : Int) (r : Nat) (l : List Int) : Prop := l ≠ [] ∧ ∀ s ∈ l, inC x c s ∧ remN x.labels.length c s = r
def stOk (x : StrucV) (c : Int) (r : Nat) (st : Int × List Int) : Prop := (∃ e, e < x.labels.length ∧ st.1 = nth x.labels e) ∧ lvOk x c r st.2
theorem stepC_st {x : StrucV} (hs : isStructureV x = true) {c s : Int} {r : Nat} (hin : inC x c s) (hr : remN x.labels.length c s = r + 1) {e : Nat} (he : e ∈ candL x c s) {st : Int × List Int} (h : st = (8, []) ∨ stOk x c r st) : stOk x c r (stepC x s st e) := by
  obtain ⟨h1, h2, h3⟩ := struc_len hs
  have hm : e < x.labels.length ∧ canS x c s e = true := by
    unfold candL at he
    rw [List.mem_filter, List.mem_range] at he
    exact he
  obtain ⟨u1, u2⟩ := up_inC h1 hin hm.1 hm.2
  have hu : inC x c (ibits .or .i64 s (pow1 e)) ∧ remN x.labels.length c (ibits .or .i64 s (pow1 e)) = r := by
    refine ⟨u1, ?_⟩
    have : remN x.labels.length c (upS s e) + 1 = r + 1 := by rw [u2, hr]
    exact Nat.succ.inj this
  have hlab := struc_lab hs _ (nth_mem hm.1)
  unfold stepC
  split
  · exact ⟨⟨e, hm.1, rfl⟩, by simp, fun y hy => by simp at hy; rw [hy]; exact hu⟩
  · rename_i hnl
    rcases h with rfl | h
    · simp only at hnl; omega
    · split
      · split
        · exact h
        · refine ⟨⟨e, hm.1, ?_⟩, by simp, fun y hy => ?_⟩
          · rename_i e1 _; exact e1.symm
          · simp only [List.mem_append, List.mem_singleton] at hy
            rcases hy with hy | rfl
            · exact h.2.2 y hy
            · exact hu
      · exact h
theorem foldC_st {x : StrucV} (hs : isStructureV x = true) {c s : Int} {r : Nat} (hin : inC x c s) (hr : remN x.labels.length c s = r + 1) : ∀ (l : List Nat) {st : Int × List Int}, (∀ e ∈ l, e ∈ candL x c s) → (st = (8, []) ∨ stOk x c r st) → (l ≠ [] ∨ stOk x c r st) → stOk x c r (l.foldl (stepC x s) st)
  | [], st, _, _, h => by rcases h with h | h; exact absurd rfl h; exact h
  | e :: l, st, hl, h, _ => by
    have h' := stepC_st hs hin hr (hl e (by simp)) h
    exact foldC_st hs hin hr l (fun f hf => hl f (by simp [hf])) (.inr h') (.inr h')
theorem scanC_st {x : StrucV} (hs : isStructureV x = true) {c s : Int} (hc : isM x.labels.length c = true) (hcf : isConf x c = true) {r : Nat} (hin : inC x c s) (hr : remN x.labels.length c s = r + 1) {st : Int × List Int} (h : st = (8, []) ∨ stOk x c r st) : stOk x c r (scanC x c st s) :=
  foldC_st hs hin hr _ (fun e he => he) h (.inl (cand_ex hs hc hcf hin (by omega)))
theorem scans_st {x : StrucV} (hs : isStructureV x = true) {c : Int} (hc : isM x.labels.length c = true) (hcf : isConf x c = true) {r : Nat} : ∀ (l : List Int) {st : Int × List Int}, (∀ s ∈ l, inC x c s ∧ remN x.labels.length c s = r + 1) → (st = (8, []) ∨ stOk x c r st) → (l ≠ [] ∨ stOk x c r st) → stOk x c r (l.foldl (scanC x c) st)
  | [], st, _, _, h => by rcases h with h | h; exact absurd rfl h; exact h
  | s :: l, st, hl, h, _ => by
    have h' := scanC_st hs hc hcf (hl s (by simp)).1 (hl s (by simp)).2 h
    exact scans_st hs hc hcf l (fun f hf => hl f (by simp [hf])) (.inr h') (.inr h')
theorem wordS_st {x : StrucV} (hs : isStructureV x = true) {c : Int} (hc : isM x.labels.length c = true) (hcf : isConf x c = true) : ∀ k, k ≤ popc c.toNat → lvOk x c (popc c.toNat - k) (wordS x c k).2 ∧ ∀ y ∈ (wordS x c k).1, ∃ e, e < x.labels.length ∧ y = nth x.labels e
  | 0, _ => by
    obtain ⟨h1, h2, h3⟩ := struc_len hs
    refine ⟨⟨by simp [wordS], fun s h => ?_⟩, fun y hy => by simp [wordS] at hy⟩
    simp only [wordS, List.mem_singleton] at h
    subst h
    refine ⟨⟨isM_of (by omega) M_zero (fun i _ => by simp), fun i hi => by simp at hi⟩, ?_⟩
    rw [popc_cardN (by omega) hc]
    unfold remN cardN; simp
  | k + 1, hk => by
    obtain ⟨⟨ih1, ih2⟩, ih3⟩ := wordS_st hs hc hcf k (by omega)
    have h := scans_st hs hc hcf (r := popc c.toNat - (k + 1)) (wordS x c k).2 (st := (8, [])) (fun s h => ⟨(ih2 s h).1, by rw [(ih2 s h).2]; omega⟩) (.inl rfl) (.inl ih1)
    refine ⟨h.2, fun y hy => ?_⟩
    simp only [wordS, List.mem_append, List.mem_singleton] at hy
    rcases hy with hy | rfl
    · exact ih3 y hy
    · exact h.1
theorem wordC_lab {x : StrucV} (hs : isStructureV x = true) {c : Int} (hc : isM x.labels.length c = true) (hcf : isConf x c = true) : ∀ y ∈ wordC x c, ∃ e, e < x.labels.length ∧ y = nth x.labels e :=
  (wordS_st hs hc hcf _ (Nat.le_refl _)).2
end Go.AM
