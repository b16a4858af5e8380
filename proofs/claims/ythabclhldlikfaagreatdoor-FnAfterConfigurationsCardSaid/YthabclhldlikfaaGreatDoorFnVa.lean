/-
  Plain laws on structures: configurations above one, immediate conflicts below each conflict, what is left behind a configuration.
-/
import Derived.Test.YthabclhldlikfaaGreatDoorFnQ
import Derived.Test.YthabclhldlikfaaGreatDoorFnMgJ
set_option linter.unusedVariables false
set_option linter.unusedSimpArgs false
set_option maxRecDepth 100000
set_option maxHeartbeats 1600000
namespace Go.AM
open Go.Proofs
theorem andNot_zero {a b : Int} (ha : M a) (hb : M b) : ibits .andNot .i64 a b = 0 ↔ ∀ i, tb a i = true → tb b i = true := by
  rw [eq_zero_iff (M_andNot ha hb)]
  constructor
  · intro h i hi
    have := h i
    rw [tb_andNot ha hb, hi] at this
    simpa using this
  · intro h i
    rw [tb_andNot ha hb]
    cases hi : tb a i
    · rfl
    · simp [h i hi]
theorem cfg_iff {x : StrucV} (hs : isStructureV x = true) {c : Int} (hM : M c) {e : Nat} (he : e < x.labels.length) :
    cfgOk x c e = true ↔ (∀ i, tb (nth x.below e) i = true → tb c i = true) ∧ ∀ i, tb (nth x.clash e) i = true → tb c i = false := by
  obtain ⟨mb, mc, _⟩ := struc_M hs he
  unfold cfgOk
  simp only [Bool.and_eq_true, beq_iff_eq]
  rw [andNot_zero mb hM, and_zero_iff mc hM]
theorem conf_iff {x : StrucV} (hs : isStructureV x = true) {c : Int} (hM : M c) :
    isConf x c = true ↔ ∀ e, e < x.labels.length → tb c e = true → (∀ i, tb (nth x.below e) i = true → tb c i = true) ∧ ∀ i, tb (nth x.clash e) i = true → tb c i = false := by
  rw [isConf_iff]
  constructor
  · intro h e he ht; exact (cfg_iff hs hM he).1 (h e he ht)
  · intro h e he ht; exact (cfg_iff hs hM he).2 (h e he ht)
theorem add_iff {x : StrucV} (hs : isStructureV x = true) {c : Int} (hM : M c) {e : Nat} (he : e < x.labels.length) :
    canAdd x c e = true ↔ tb c e = false ∧ (∀ i, tb (nth x.below e) i = true → tb c i = true) ∧ ∀ i, tb (nth x.clash e) i = true → tb c i = false := by
  obtain ⟨mb, mc, _⟩ := struc_M hs he
  unfold canAdd
  simp only [Bool.and_eq_true, beq_iff_eq, Bool.not_eq_true']
  rw [andNot_zero mb hM, and_zero_iff mc hM, and_assoc]
/-- What stands below an event, in plain words. -/
theorem below_sub {x : StrucV} (hs : isStructureV x = true) {e f : Nat} (he : e < x.labels.length) (hf : f < x.labels.length) (h : tb (nth x.below e) f = true) :
    (∀ i, tb (nth x.below f) i = true → tb (nth x.below e) i = true) ∧ ∀ i, tb (nth x.clash f) i = true → tb (nth x.clash e) i = true := by
  have hp := (isStruc_iff.1 hs).2.2.2.2 e he f hf
  unfold pairOk sub2 at hp
  rw [h] at hp
  simp only [Bool.and_eq_true, Bool.not_true, Bool.false_or, beq_iff_eq] at hp
  obtain ⟨mb, mc, _⟩ := struc_M hs he
  obtain ⟨mb', mc', _⟩ := struc_M hs hf
  exact ⟨(andNot_zero mb' mb).1 hp.1.1, (andNot_zero mc' mc).1 hp.1.2⟩
theorem filter_le {α : Type} (p q : α → Bool) : ∀ (l : List α), (∀ i ∈ l, p i = true → q i = true) → (l.filter p).length ≤ (l.filter q).length
  | [], _ => Nat.le_refl _
  | a :: l, h => by
    have ih := filter_le p q l fun i hi => h i (by simp [hi])
    rw [List.filter_cons, List.filter_cons]
    cases hp : p a
    · cases hq : q a <;> simp <;> omega
    · rw [h a (by simp) hp]; simpa using ih
theorem filter_lt {α : Type} (p q : α → Bool) : ∀ (l : List α) (a : α), a ∈ l → p a = false → q a = true → (∀ i ∈ l, p i = true → q i = true) → (l.filter p).length < (l.filter q).length
  | [], _, ha, _, _, _ => by cases ha
  | b :: l, a, ha, hp, hq, h => by
    have hle := filter_le p q l fun i hi => h i (by simp [hi])
    rw [List.filter_cons, List.filter_cons]
    rcases List.mem_cons.1 ha with rfl | ha
    · rw [hp, hq]; simp; omega
    · have ih := filter_lt p q l a ha hp hq fun i hi => h i (by simp [hi])
      cases hpb : p b
      · cases hqb : q b <;> simp <;> omega
      · rw [h b (by simp) hpb]; simpa using ih
theorem card_below {x : StrucV} (hs : isStructureV x = true) {e f : Nat} (he : e < x.labels.length) (hf : f < x.labels.length) (h : tb (nth x.below e) f = true) :
    cardN x.labels.length (nth x.below f) < cardN x.labels.length (nth x.below e) :=
  filter_lt _ _ _ f (List.mem_range.2 hf) (struc_irr hs hf).1 h fun i _ hi => (below_sub hs he hf h).1 i hi
/-- Between two configurations there is an event that can be added. -/
theorem conf_between {x : StrucV} (hs : isStructureV x = true) {c d : Int} (hc : isM x.labels.length c = true) (hd : isM x.labels.length d = true) (hdc : isConf x d = true) (hcd : ∀ i, tb c i = true → tb d i = true) (hne : c ≠ d) :
    ∃ e, e < x.labels.length ∧ tb d e = true ∧ canAdd x c e = true := by
  obtain ⟨h1, h2, h3⟩ := struc_len hs
  obtain ⟨hM, hb⟩ := isM_spec (by omega) hc
  obtain ⟨hMd, hbd⟩ := isM_spec (by omega) hd
  have hdi := (conf_iff hs hMd).1 hdc
  have hex : ∃ e, tb d e = true ∧ tb c e = false := by
    apply Classical.byContradiction
    intro hno
    apply hne
    apply tb_ext hM hMd
    intro i _
    cases h5 : tb d i
    · cases h6 : tb c i
      · rfl
      · rw [hcd i h6] at h5; cases h5
    · cases h6 : tb c i
      · exact absurd ⟨i, h5, h6⟩ hno
      · rfl
  have go : ∀ k e, cardN x.labels.length (nth x.below e) = k → tb d e = true → tb c e = false → ∃ e, e < x.labels.length ∧ tb d e = true ∧ canAdd x c e = true := by
    intro k
    induction k using Nat.strongRecOn with
    | _ k ih =>
      intro e hk he1 he2
      have hen : e < x.labels.length := Nat.lt_of_not_le fun hle => by rw [hbd e hle] at he1; cases he1
      by_cases hall : ∀ i, tb (nth x.below e) i = true → tb c i = true
      · exact ⟨e, hen, he1, (add_iff hs hM hen).2 ⟨he2, hall, fun i hi => by
          have := (hdi e hen he1).2 i hi
          cases h6 : tb c i
          · rfl
          · rw [hcd i h6] at this; cases this⟩⟩
      · obtain ⟨f, hf⟩ := Classical.not_forall.1 hall
        have hf1 : tb (nth x.below e) f = true := Classical.byContradiction fun h => hf fun h' => absurd h' h
        have hf2 : tb c f = false := by
          cases h6 : tb c f
          · rfl
          · exact absurd (fun _ => h6) hf
        have hfd := (hdi e hen he1).1 f hf1
        have hfn : f < x.labels.length := Nat.lt_of_not_le fun hle => by rw [hbd f hle] at hfd; cases hfd
        exact ih _ (by rw [← hk]; exact card_below hs hen hfn hf1) f rfl hfd hf2
  obtain ⟨e, e1, e2⟩ := hex
  exact go _ e rfl e1 e2
theorem filter_one {α : Type} {p : α → Bool} : ∀ {l : List α} {c : α}, l.Nodup → c ∈ l → p c = true → ((l.filter p).length = 1 ↔ ∀ d ∈ l, p d = true → d = c)
  | [], _, _, hc, _ => by cases hc
  | a :: l, c, hn, hc, hp => by
    obtain ⟨ha, hn'⟩ := List.nodup_cons.1 hn
    rw [List.filter_cons]
    rcases List.mem_cons.1 hc with rfl | hc
    · rw [hp]
      simp only [if_true, List.length_cons, List.mem_cons]
      constructor
      · intro h d hd hpd
        rcases hd with rfl | hd
        · rfl
        · have h0 : l.filter p = [] := List.length_eq_zero_iff.1 (by omega)
          exact absurd hpd (by simpa using List.filter_eq_nil_iff.1 h0 d hd)
      · intro h
        have : l.filter p = [] := List.filter_eq_nil_iff.2 fun d hd hpd => ha (by rw [← h d (.inr hd) hpd]; exact hd)
        rw [this]; rfl
    · have ih := filter_one hn' hc hp
      cases hpa : p a
      · simp only [Bool.false_eq_true, if_false, ih]
        constructor
        · intro h d hd hpd
          rcases List.mem_cons.1 hd with rfl | hd
          · rw [hpa] at hpd; cases hpd
          · exact h d hd hpd
        · intro h d hd hpd; exact h d (by simp [hd]) hpd
      · simp only [if_true, List.length_cons]
        have hpos : 0 < (l.filter p).length := List.length_pos_of_mem (List.mem_filter.2 ⟨hc, hp⟩)
        constructor
        · intro h; omega
        · intro h
          have := h a (by simp) hpa
          subst this; exact absurd hc ha
theorem nodup_mapO {α β : Type} {f : α → β} : ∀ {l : List α}, l.Nodup → (∀ a ∈ l, ∀ b ∈ l, f a = f b → a = b) → (l.map f).Nodup
  | [], _, _ => List.nodup_nil
  | a :: l, hn, h => by
    obtain ⟨h1, h2⟩ := List.nodup_cons.1 hn
    rw [List.map_cons, List.nodup_cons]
    refine ⟨fun hm => ?_, nodup_mapO h2 fun b hb c hc => h b (by simp [hb]) c (by simp [hc])⟩
    obtain ⟨b, hb, hfb⟩ := List.mem_map.1 hm
    have := h b (by simp [hb]) a (by simp) hfb
    subst this; exact h1 hb
theorem allConf_nodup (x : StrucV) : (allConf x).Nodup := confL_nodup x _
/-- How many masks of a list have all members of a mask. -/
def holdsN (l : List Int) (m : Int) : Nat := (l.filter fun d => ibits .andNot .i64 m d == 0).length
theorem holds_one {x : StrucV} (hs : isStructureV x = true) {c : Int} (hc : c ∈ allConf x) : holdsN (allConf x) c = 1 ↔ isMaxC x c = true := by
  obtain ⟨h1, h2, h3⟩ := struc_len hs
  obtain ⟨hm, hcf⟩ := (mem_allConf (by omega)).1 hc
  obtain ⟨hM, hb⟩ := isM_spec (by omega) hm
  have hself : (fun d => ibits .andNot .i64 c d == 0) c = true := by
    simp only [beq_iff_eq]; exact (andNot_zero hM hM).2 fun i h => h
  unfold holdsN
  rw [filter_one (allConf_nodup x) hc hself]
  unfold isMaxC
  rw [List.isEmpty_iff]
  constructor
  · intro h
    apply List.eq_nil_iff_forall_not_mem.2
    intro e he
    obtain ⟨hen, hadd⟩ := mem_addL.1 he
    obtain ⟨u1, u2⟩ := conf_up hs hm hcf hen hadd
    have := h (upS c e) ((mem_allConf (by omega)).2 ⟨u1, u2⟩) (by
      simp only [beq_iff_eq]
      exact (andNot_zero hM (up_M hM (by omega))).2 fun i hi => by rw [tb_up hM (by omega), hi]; rfl)
    have h5 : tb (upS c e) e = true := by rw [tb_up hM (by omega)]; simp
    rw [this, ((add_iff hs hM hen).1 hadd).1] at h5; cases h5
  · intro h d hd hsub
    obtain ⟨hmd, hdc⟩ := (mem_allConf (by omega)).1 hd
    obtain ⟨hMd, _⟩ := isM_spec (by omega) hmd
    simp only [beq_iff_eq] at hsub
    apply Classical.byContradiction
    intro hne
    obtain ⟨e, e1, e2, e3⟩ := conf_between hs hm hmd hdc ((andNot_zero hM hMd).1 hsub) (fun h => hne h.symm)
    have := mem_addL.2 ⟨e1, e3⟩
    rw [h] at this; cases this
/-- Below each conflict there is an immediate one. -/
theorem imm_below {x : StrucV} (hs : isStructureV x = true) : ∀ (k : Nat) (e f : Nat), e < x.labels.length → f < x.labels.length → cardN x.labels.length (nth x.below e) + cardN x.labels.length (nth x.below f) = k → tb (nth x.clash e) f = true →
    ∃ g h, g < x.labels.length ∧ h < x.labels.length ∧ immB x g h = true ∧ tb (histOf x e) g = true ∧ tb (histOf x f) h = true := by
  intro k
  induction k using Nat.strongRecOn with
  | _ k ih =>
    intro e f he hf hk hcl
    obtain ⟨me, be, ze⟩ := hist_M hs he
    obtain ⟨mf, bf, zf⟩ := hist_M hs hf
    by_cases hi : immB x e f = true
    · exact ⟨e, f, he, hf, hi, by rw [be]; simp, by rw [bf]; simp⟩
    · have hno := fun h => hi ((imm_iff hs he hf).2 ⟨hcl, h⟩)
      obtain ⟨a, ha⟩ := Classical.not_forall.1 hno
      obtain ⟨b, hb⟩ := Classical.not_forall.1 ha
      simp only [Classical.not_imp] at hb
      obtain ⟨a1, ab, b1, hne⟩ := hb
      have han : a < x.labels.length := Nat.lt_of_not_le fun hle => by rw [ze a hle] at a1; cases a1
      have hbn : b < x.labels.length := Nat.lt_of_not_le fun hle => by rw [zf b hle] at b1; cases b1
      have ca : cardN x.labels.length (nth x.below a) ≤ cardN x.labels.length (nth x.below e) ∧ (a ≠ e → cardN x.labels.length (nth x.below a) < cardN x.labels.length (nth x.below e)) ∧ ∀ i, tb (histOf x a) i = true → tb (histOf x e) i = true := by
        rw [be] at a1
        simp only [Bool.or_eq_true, decide_eq_true_eq] at a1
        rcases a1 with a1 | rfl
        · have := card_below hs he han a1
          exact ⟨by omega, fun _ => this, fun i hi => by
            rw [(hist_M hs han).2.1] at hi
            rw [be]
            simp only [Bool.or_eq_true, decide_eq_true_eq] at hi ⊢
            rcases hi with hi | rfl
            · exact .inl ((below_sub hs he han a1).1 i hi)
            · exact .inl a1⟩
        · exact ⟨Nat.le_refl _, fun h => absurd rfl h, fun i h => h⟩
      have cb : cardN x.labels.length (nth x.below b) ≤ cardN x.labels.length (nth x.below f) ∧ (b ≠ f → cardN x.labels.length (nth x.below b) < cardN x.labels.length (nth x.below f)) ∧ ∀ i, tb (histOf x b) i = true → tb (histOf x f) i = true := by
        rw [bf] at b1
        simp only [Bool.or_eq_true, decide_eq_true_eq] at b1
        rcases b1 with b1 | rfl
        · have := card_below hs hf hbn b1
          exact ⟨by omega, fun _ => this, fun i hi => by
            rw [(hist_M hs hbn).2.1] at hi
            rw [bf]
            simp only [Bool.or_eq_true, decide_eq_true_eq] at hi ⊢
            rcases hi with hi | rfl
            · exact .inl ((below_sub hs hf hbn b1).1 i hi)
            · exact .inl b1⟩
        · exact ⟨Nat.le_refl _, fun h => absurd rfl h, fun i h => h⟩
      have hlt : cardN x.labels.length (nth x.below a) + cardN x.labels.length (nth x.below b) < k := by
        rw [← hk]
        by_cases h1 : a = e
        · have h2 : b ≠ f := fun h => hne ⟨h1, h⟩
          have := cb.2.1 h2
          have := ca.1
          omega
        · have := ca.2.1 h1
          have := cb.1
          omega
      obtain ⟨g, h, q1, q2, q3, q4, q5⟩ := ih _ hlt a b han hbn rfl ab
      exact ⟨g, h, q1, q2, q3, ca.2.2 g q4, cb.2.2 h q5⟩
theorem imm_sym {x : StrucV} (hs : isStructureV x = true) {e f : Nat} (he : e < x.labels.length) (hf : f < x.labels.length) (h : immB x e f = true) : immB x f e = true := by
  rw [imm_iff hs he hf] at h
  rw [imm_iff hs hf he]
  obtain ⟨h1, h2⟩ := h
  refine ⟨by rw [struc_sym hs hf he]; exact h1, fun a b ha hab hb => ?_⟩
  have han : a < x.labels.length := Nat.lt_of_not_le fun hle => by rw [(hist_M hs hf).2.2 a hle] at ha; cases ha
  have hbn : b < x.labels.length := Nat.lt_of_not_le fun hle => by rw [(hist_M hs he).2.2 b hle] at hb; cases hb
  have := h2 b a hb (by rw [struc_sym hs hbn han]; exact hab) ha
  exact ⟨this.2, this.1⟩
theorem imm_pair {x : StrucV} (hs : isStructureV x = true) {e f : Nat} (he : e < x.labels.length) (hf : f < x.labels.length) (h : tb (nth x.clash e) f = true) :
    ∃ g h : Nat, g < h ∧ h < x.labels.length ∧ [(g : Int), (h : Int)] ∈ rowsU x x.labels.length ∧ ((tb (histOf x e) g = true ∧ tb (histOf x f) h = true) ∨ (tb (histOf x e) h = true ∧ tb (histOf x f) g = true)) := by
  obtain ⟨g, h, q1, q2, q3, q4, q5⟩ := imm_below hs _ e f he hf rfl h
  have hne : g ≠ h := fun h5 => by
    subst h5
    have := ((imm_iff hs q1 q1).1 q3).1
    rw [(struc_irr hs q1).2] at this; cases this
  have hin : ∀ a b : Nat, a < b → b < x.labels.length → immB x a b = true → [(a : Int), (b : Int)] ∈ rowsU x x.labels.length := fun a b hab hb hi => by
    unfold rowsU rowsE
    refine List.mem_flatMap.2 ⟨a, List.mem_range.2 (by omega), List.mem_map.2 ⟨b, List.mem_filter.2 ⟨List.mem_range.2 hb, by simp [hab, hi]⟩, rfl⟩⟩
  by_cases hgh : g < h
  · exact ⟨g, h, hgh, q2, hin g h hgh q2 q3, .inl ⟨q4, q5⟩⟩
  · exact ⟨h, g, by omega, q1, hin h g (by omega) q1 (imm_sym hs q1 q2 q3), .inr ⟨q4, q5⟩⟩
theorem rowsU_mem {x : StrucV} {m : Nat} {r : List Int} (h : r ∈ rowsU x m) : ∃ e f : Nat, e < f ∧ f < x.labels.length ∧ r = [(e : Int), (f : Int)] := by
  unfold rowsU rowsE at h
  obtain ⟨e, he, hr⟩ := List.mem_flatMap.1 h
  obtain ⟨f, hf, rfl⟩ := List.mem_map.1 hr
  rw [List.mem_filter, List.mem_range] at hf
  simp only [Bool.and_eq_true, decide_eq_true_eq] at hf
  exact ⟨e, f, hf.2.1, hf.1, rfl⟩
/-- The structure that is left. -/
def aftS (x : StrucV) (c : Int) : StrucV := ⟨aftB x (leftL x c), aftC x (leftL x c), aftL x (leftL x c)⟩
theorem left_nodup (x : StrucV) (c : Int) : (leftL x c).Nodup := List.nodup_range.sublist List.filter_sublist
theorem nth_mapN {f : Nat → Int} {L : List Nat} {i : Nat} (h : i < L.length) : nth (L.map f) i = f (natAt L i) := by
  rw [nth_at (by simpa using h), natAt_at h]; simp
theorem tb_shrink {m : Int} {L : List Nat} (hL : L.length ≤ 24) (i : Nat) : tb (shrinkL m L) i = (decide (i < L.length) && tb m (natAt L i)) := by
  unfold shrinkL
  rw [tb_orMask _ M_zero _ _ (by omega)]
  simp
theorem M_shrink {m : Int} {L : List Nat} (hL : L.length ≤ 24) : M (shrinkL m L) := M_orMask _ M_zero _ (by omega)
theorem shrink_M {m : Int} {L : List Nat} (hL : L.length ≤ 24) : isM L.length (shrinkL m L) = true := isM_of (by omega) (M_shrink hL) fun i hi => by rw [tb_shrink hL]; simp; omega
/-- Any chosen events make a structure. -/
theorem aft_struc {x : StrucV} (hs : isStructureV x = true) {L : List Nat} (h16 : L.length ≤ 16) (hL : ∀ e ∈ L, e < x.labels.length) : isStructureV ⟨aftB x L, aftC x L, aftL x L⟩ = true := by
  obtain ⟨h1, h2, h3⟩ := struc_len hs
  have hn : (aftL x L).length = L.length := by simp [aftL]
  rw [isStruc_iff]
  simp only [hn]
  have gb : ∀ i, i < L.length → nth (aftB x L) i = shrinkL (nth x.below (natAt L i)) L := fun i hi => nth_mapN hi
  have gc : ∀ i, i < L.length → nth (aftC x L) i = shrinkL (nth x.clash (natAt L i)) L := fun i hi => nth_mapN hi
  have gl : ∀ i, i < L.length → nth (aftL x L) i = nth x.labels (natAt L i) := fun i hi => nth_mapN hi
  have hin : ∀ i, i < L.length → natAt L i < x.labels.length := fun i hi => hL _ (natAt_mem hi)
  refine ⟨h16, by simp [aftB], by simp [aftC], fun e he => ?_, fun e he f hf => ?_⟩
  · unfold evOk
    simp only [gb e he, gc e he, gl e he]
    have hl := struc_lab hs _ (nth_mem (hin e he))
    simp only [shrink_M (show L.length ≤ 24 by omega), tb_shrink (show L.length ≤ 24 by omega), (struc_irr hs (hin e he)).1, (struc_irr hs (hin e he)).2]
    simp [hl]
  · unfold pairOk sub2
    simp only [gb e he, gc e he, gb f hf, gc f hf]
    simp only [Bool.and_eq_true, Bool.or_eq_true, Bool.not_eq_true', beq_iff_eq]
    refine ⟨?_, ?_⟩
    · cases h5 : tb (shrinkL (nth x.below (natAt L e)) L) f
      · exact .inl rfl
      · right
        rw [tb_shrink (by omega)] at h5
        simp only [Bool.and_eq_true, decide_eq_true_eq] at h5
        obtain ⟨s1, s2⟩ := below_sub hs (hin e he) (hin f hf) h5.2
        rw [andNot_zero (M_shrink (by omega)) (M_shrink (by omega)), andNot_zero (M_shrink (by omega)) (M_shrink (by omega))]
        constructor
        · intro i hi
          rw [tb_shrink (by omega)] at hi ⊢
          simp only [Bool.and_eq_true, decide_eq_true_eq] at hi ⊢
          exact ⟨hi.1, s1 _ hi.2⟩
        · intro i hi
          rw [tb_shrink (by omega)] at hi ⊢
          simp only [Bool.and_eq_true, decide_eq_true_eq] at hi ⊢
          exact ⟨hi.1, s2 _ hi.2⟩
    · rw [tb_shrink (by omega), tb_shrink (by omega), struc_sym hs (hin e he) (hin f hf)]
      simp [he, hf]
/-- A mask of events that are left, with the configuration. -/
def growM (x : StrucV) (c : Int) (L : List Nat) (d : Int) : Int := orMask c (fun i => (List.range L.length).any fun j => natAt L j == i && tb d j) x.labels.length
theorem natAt_inj {L : List Nat} (hn : L.Nodup) {i j : Nat} (hi : i < L.length) (hj : j < L.length) (h : natAt L i = natAt L j) : i = j := by
  rw [natAt_at hi, natAt_at hj] at h
  exact (List.getElem_inj hn).1 h
theorem left_count {x : StrucV} {c : Int} (h0 : maskCode x c = 0) : (allConf (aftS x c)).length = holdsN (allConf x) c := by
  obtain ⟨hs, hb, hcf, _⟩ := maskCode_zero h0
  obtain ⟨h1, h2, h3⟩ := struc_len hs
  obtain ⟨hM, hbit⟩ := isM_spec (by omega) hb
  have hLlen := leftL_length x c
  have hLlt := leftL_lt (x := x) (c := c)
  have hLn := left_nodup x c
  have hLm : ∀ e, e ∈ leftL x c ↔ e < x.labels.length ∧ tb c e = false ∧ ∀ i, tb (nth x.clash e) i = true → tb c i = false := fun e => by
    unfold leftL
    rw [List.mem_filter, List.mem_range]
    simp only [Bool.and_eq_true, Bool.not_eq_true', beq_iff_eq]
    constructor
    · rintro ⟨a, b, d⟩; exact ⟨a, b, (and_zero_iff (struc_M hs a).2.1 hM).1 d⟩
    · rintro ⟨a, b, d⟩; exact ⟨a, b, (and_zero_iff (struc_M hs a).2.1 hM).2 d⟩
  have hst : isStructureV (aftS x c) = true := aft_struc hs (by omega) hLlt
  have hci := (conf_iff hs hM).1 hcf
  unfold aftS at *
  generalize leftL x c = L at *
  have hn : (aftL x L).length = L.length := by simp [aftL]
  have gb : ∀ i, i < L.length → nth (aftB x L) i = shrinkL (nth x.below (natAt L i)) L := fun i hi => nth_mapN hi
  have gc : ∀ i, i < L.length → nth (aftC x L) i = shrinkL (nth x.clash (natAt L i)) L := fun i hi => nth_mapN hi
  have hin : ∀ i, i < L.length → natAt L i < x.labels.length := fun i hi => hLlt _ (natAt_mem hi)
  have place : ∀ e ∈ L, ∃ i, i < L.length ∧ natAt L i = e := fun e he => by
    obtain ⟨i, hi, rfl⟩ := List.mem_iff_getElem.1 he
    exact ⟨i, hi, natAt_at hi⟩
  have conft : ∀ d : Int, M d → (isConf ⟨aftB x L, aftC x L, aftL x L⟩ d = true ↔ ∀ e, e < L.length → tb d e = true → (∀ i, i < L.length → tb (nth x.below (natAt L e)) (natAt L i) = true → tb d i = true) ∧ ∀ i, i < L.length → tb (nth x.clash (natAt L e)) (natAt L i) = true → tb d i = false) := fun d hd => by
    rw [conf_iff hst hd]
    simp only [hn]
    constructor
    · intro h e he ht
      have := h e he ht
      simp only [gb e he, gc e he, tb_shrink (show L.length ≤ 24 by omega), Bool.and_eq_true, decide_eq_true_eq] at this
      exact ⟨fun i hi hh => this.1 i ⟨hi, hh⟩, fun i hi hh => this.2 i ⟨hi, hh⟩⟩
    · intro h e he ht
      have := h e he ht
      simp only [gb e he, gc e he, tb_shrink (show L.length ≤ 24 by omega), Bool.and_eq_true, decide_eq_true_eq]
      exact ⟨fun i hi => this.1 i hi.1 hi.2, fun i hi => this.2 i hi.1 hi.2⟩
  have hgM : ∀ d, M (growM x c L d) := fun d => M_orMask _ hM _ (by omega)
  have tg : ∀ d i, tb (growM x c L d) i = (tb c i || (decide (i < x.labels.length) && (List.range L.length).any fun j => natAt L j == i && tb d j)) := fun d i => by
    unfold growM; rw [tb_orMask _ hM _ _ (by omega)]
  have tgL : ∀ d j, j < L.length → tb (growM x c L d) (natAt L j) = tb d j := fun d j hj => by
    rw [tg, ((hLm _).1 (natAt_mem hj)).2.1]
    simp only [Bool.false_or, hin j hj, decide_true, Bool.true_and]
    rw [Bool.eq_iff_iff]
    simp only [List.any_eq_true, List.mem_range, Bool.and_eq_true, beq_iff_eq]
    constructor
    · rintro ⟨k, hk, hk1, hk2⟩
      rw [← natAt_inj hLn hk hj hk1]; exact hk2
    · intro h; exact ⟨j, hj, rfl, h⟩
  have tgN : ∀ d i, tb (growM x c L d) i = true → tb c i = true ∨ ∃ j, j < L.length ∧ natAt L j = i ∧ tb d j = true := fun d i h => by
    rw [tg] at h
    simp only [Bool.or_eq_true, Bool.and_eq_true, List.any_eq_true, List.mem_range, beq_iff_eq] at h
    rcases h with h | ⟨_, j, hj, h1, h2⟩
    · exact .inl h
    · exact .inr ⟨j, hj, h1, h2⟩
  unfold holdsN
  have hperm : (((allConf x).filter fun d => ibits .andNot .i64 c d == 0).map fun d => shrinkL d L).Perm (allConf ⟨aftB x L, aftC x L, aftL x L⟩) := by
    have memf : ∀ d, d ∈ ((allConf x).filter fun d => ibits .andNot .i64 c d == 0) → isM x.labels.length d = true ∧ isConf x d = true ∧ ∀ i, tb c i = true → tb d i = true := fun d hd => by
      obtain ⟨k1, k2⟩ := List.mem_filter.1 hd
      obtain ⟨k3, k4⟩ := (mem_allConf (by omega)).1 k1
      simp only [beq_iff_eq] at k2
      exact ⟨k3, k4, (andNot_zero hM (isM_spec (by omega) k3).1).1 k2⟩
    have inL : ∀ d, isM x.labels.length d = true → isConf x d = true → (∀ i, tb c i = true → tb d i = true) → ∀ e, tb d e = true → tb c e = false → e ∈ L := fun d k1 k2 k3 e he hce => by
      obtain ⟨hMd, hbd⟩ := isM_spec (by omega) k1
      have hen : e < x.labels.length := Nat.lt_of_not_le fun hle => by rw [hbd e hle] at he; cases he
      refine (hLm e).2 ⟨hen, hce, fun i hi => ?_⟩
      have := ((conf_iff hs hMd).1 k2 e hen he).2 i hi
      cases h6 : tb c i
      · rfl
      · rw [k3 i h6] at this; cases this
    refine (List.perm_ext_iff_of_nodup ?_ (allConf_nodup _)).2 fun d' => ?_
    · refine nodup_mapO ((allConf_nodup x).sublist List.filter_sublist) fun d hd e he hde => ?_
      obtain ⟨d1, d2, d3⟩ := memf d hd
      obtain ⟨e1, e2, e3⟩ := memf e he
      obtain ⟨hMd, hbd⟩ := isM_spec (by omega) d1
      obtain ⟨hMe, hbe⟩ := isM_spec (by omega) e1
      apply tb_ext hMd hMe
      intro i _
      have h6 : ∀ j, j < L.length → tb d (natAt L j) = tb e (natAt L j) := fun j hj => by
        have : tb (shrinkL d L) j = tb (shrinkL e L) j := by rw [hde]
        rw [tb_shrink (by omega), tb_shrink (by omega)] at this
        simpa [hj] using this
      cases hci : tb c i
      · cases hdi : tb d i
        · cases hei : tb e i
          · rfl
          · obtain ⟨j, hj, rfl⟩ := place i (inL e e1 e2 e3 i hei hci)
            rw [h6 j hj, hei] at hdi; cases hdi
        · obtain ⟨j, hj, rfl⟩ := place i (inL d d1 d2 d3 i hdi hci)
          rw [← h6 j hj, hdi]
      · rw [d3 i hci, e3 i hci]
    · rw [List.mem_map, mem_allConf (by simp only [hn]; omega)]
      simp only [hn]
      constructor
      · rintro ⟨d, hd, rfl⟩
        obtain ⟨d1, d2, d3⟩ := memf d hd
        obtain ⟨hMd, hbd⟩ := isM_spec (by omega) d1
        refine ⟨shrink_M (by omega), (conft _ (M_shrink (by omega))).2 fun e he ht => ?_⟩
        rw [tb_shrink (by omega)] at ht
        simp only [Bool.and_eq_true, decide_eq_true_eq] at ht
        obtain ⟨q1, q2⟩ := (conf_iff hs hMd).1 d2 _ (hin e he) ht.2
        refine ⟨fun i hi hh => ?_, fun i hi hh => ?_⟩
        · rw [tb_shrink (by omega), q1 _ hh]; simp [hi]
        · rw [tb_shrink (by omega), q2 _ hh]; simp
      · rintro ⟨k1, k2⟩
        obtain ⟨hMd, hbd⟩ := isM_spec (by omega) k1
        have hcf' := (conft d' hMd).1 k2
        refine ⟨growM x c L d', List.mem_filter.2 ⟨(mem_allConf (by omega)).2 ⟨isM_of (by omega) (hgM _) fun i hi => ?_, (conf_iff hs (hgM _)).2 fun e he ht => ?_⟩, ?_⟩, ?_⟩
        · rw [tg, hbit i hi]; simp; omega
        · rcases tgN d' e ht with h | ⟨j, hj, rfl, hjd⟩
          · obtain ⟨q1, q2⟩ := hci e he h
            refine ⟨fun i hi => by rw [tg, q1 i hi]; rfl, fun i hi => ?_⟩
            cases h7 : tb (growM x c L d') i
            · rfl
            · rcases tgN d' i h7 with h8 | ⟨k, hk, rfl, _⟩
              · rw [q2 i hi] at h8; cases h8
              · have := ((hLm _).1 (natAt_mem hk)).2.2 e (by rw [struc_sym hs (hin k hk) he]; exact hi)
                rw [h] at this; cases this
          · obtain ⟨q1, q2⟩ := hcf' j hj hjd
            refine ⟨fun i hi => ?_, fun i hi => ?_⟩
            · have hin' : i < x.labels.length := Nat.lt_of_not_le fun hle => by rw [(struc_M hs he).2.2.1 i hle] at hi; cases hi
              cases hci' : tb c i
              · have : i ∈ L := (hLm i).2 ⟨hin', hci', fun q hq => ((hLm _).1 (natAt_mem hj)).2.2 q ((below_sub hs (hin j hj) hin' hi).2 q hq)⟩
                obtain ⟨k, hk, rfl⟩ := place i this
                rw [tgL d' k hk]; exact q1 k hk hi
              · rw [tg, hci']; rfl
            · cases h7 : tb (growM x c L d') i
              · rfl
              · rcases tgN d' i h7 with h8 | ⟨k, hk, rfl, hk2⟩
                · have := ((hLm _).1 (natAt_mem hj)).2.2 i hi
                  rw [h8] at this; cases this
                · rw [q2 k hk hi] at hk2; cases hk2
        · simp only [beq_iff_eq]
          exact (andNot_zero hM (hgM _)).2 fun i hi => by rw [tg, hi]; rfl
        · apply tb_ext (M_shrink (by omega)) hMd
          intro i _
          rw [tb_shrink (by omega)]
          by_cases hi : i < L.length
          · simp [hi, tgL d' i hi]
          · rw [hbd i (by omega)]; simp [hi]
  rw [← hperm.length_eq, List.length_map]
end Go.AM
