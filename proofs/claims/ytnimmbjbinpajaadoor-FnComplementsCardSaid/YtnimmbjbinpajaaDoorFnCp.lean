/-
  Complements: the reached markings of the net with complements; no contact (plain).
-/
import Derived.Test.YtnimmbjbinpajaaDoorFnCo
set_option linter.unusedVariables false
set_option linter.unusedSimpArgs false
set_option linter.unusedSectionVars false
set_option maxRecDepth 100000
set_option maxHeartbeats 1600000
namespace Go.AM
open Go.Proofs
/-- Reached markings lie in each set that steps do not leave. -/
theorem stA_dom {x : NetV} {Dm : Int → Prop} {p : Int × List Int} {L : BL} (hp : Dm p.1) (hL : ∀ k ∈ keys L, Dm k) {a : Nat} (hc : ∀ s, Dm s → fireBad x s a = false → Dm (fireTo x s a)) : ∀ k ∈ keys (stA x p L a), Dm k := by
  unfold stA
  split
  · exact hL
  · rename_i hb
    split
    · exact hL
    · split
      · rw [keys_snoc]
        intro k hk
        rcases List.mem_append.1 hk with hk | hk
        · exact hL k hk
        · rw [List.mem_singleton] at hk; subst hk; exact hc _ hp (by simpa using hb)
      · exact hL
theorem foA_dom {x : NetV} {Dm : Int → Prop} {p : Int × List Int} {L : BL} (hp : Dm p.1) (hL : ∀ k ∈ keys L, Dm k) (hc : ∀ s a, Dm s → a < x.pre.length → fireBad x s a = false → Dm (fireTo x s a)) : ∀ n, n ≤ x.pre.length → ∀ k ∈ keys (foA x p L n), Dm k
  | 0, _ => by simpa [foA] using hL
  | n + 1, hn => by
    rw [foA_succ]
    exact stA_dom hp (foA_dom hp hL hc n (by omega)) fun s hs hb => hc s n hs (by omega) hb
theorem bfsA_dom {x : NetV} {Dm : Int → Prop} (hc : ∀ s a, Dm s → a < x.pre.length → fireBad x s a = false → Dm (fireTo x s a)) : ∀ (f i : Nat) (L : BL), (∀ k ∈ keys L, Dm k) → ∀ k ∈ keys (bfsA x f i L), Dm k
  | 0, _, L, hL => by simpa [bfsA] using hL
  | f + 1, i, L, hL => by
    rw [bfsA]
    split
    · rename_i hi
      refine bfsA_dom hc f (i + 1) _ (foA_dom (hL _ ?_) hL hc _ (Nat.le_refl _))
      rw [← keys_nth hi]
      exact nth_mem (by simpa using hi)
    · exact hL
theorem reach_dom {x : NetV} {Dm : Int → Prop} (h0 : Dm x.s) (hc : ∀ s a, Dm s → a < x.pre.length → fireBad x s a = false → Dm (fireTo x s a)) : ∀ k ∈ keys (reachV x), Dm k :=
  bfsA_dom hc 300 0 _ (by simpa [keys] using h0)
theorem needR_has {x : NetV} (hx : isNet x.p x.pre x.post x.s = true) {m s : Int} (hm : M m ∧ m ≤ full x.p) (hs : M s ∧ s ≤ full x.p) (i : Nat) : ∀ k, k ≤ x.pre.length → (tb s i = true → tb (needR x m s k) i = true) ∧ ∀ a, a < k → tb (contM x m a) i = true → tb (needR x m s k) i = true
  | 0, _ => ⟨fun h => h, fun a ha => by omega⟩
  | k + 1, hk => by
    obtain ⟨h1, h2⟩ := needR_has hx hm hs i k (by omega)
    have g1 := (needR_ok hx hm hs k (by omega)).1
    have g2 := (contM_ok hx hm.1 hm.2 (show k < x.pre.length by omega)).1
    unfold needR
    refine ⟨fun h => ?_, fun a ha hc => ?_⟩
    · rw [tb_or g1 g2, h1 h]; rfl
    · rw [tb_or g1 g2]
      by_cases e : a = k
      · subst e; rw [hc, Bool.or_true]
      · rw [h2 a (by omega) hc]; rfl
theorem needL_has {x : NetV} (hx : isNet x.p x.pre x.post x.s = true) (i : Nat) : ∀ (l : List Int) (s : Int), (∀ y ∈ l, M y ∧ y ≤ full x.p) → M s ∧ s ≤ full x.p → (tb s i = true → tb (needL x s l) i = true) ∧ ∀ m ∈ l, ∀ a, a < x.pre.length → tb (contM x m a) i = true → tb (needL x s l) i = true
  | [], s, _, _ => ⟨fun h => h, fun m hm => by cases hm⟩
  | y :: l, s, hl, hs => by
    have hy := hl y (by simp)
    obtain ⟨r1, r2⟩ := needR_has hx hy hs i x.pre.length (Nat.le_refl _)
    obtain ⟨h1, h2⟩ := needL_has hx i l (needR x y s x.pre.length) (fun z hz => hl z (by simp [hz])) (needR_ok hx hy hs _ (Nat.le_refl _))
    rw [needL]
    refine ⟨fun h => h1 (r1 h), fun m hm a ha hc => ?_⟩
    rcases List.mem_cons.1 hm with rfl | hm
    · exact h1 (r2 a ha hc)
    · exact h2 m hm a ha hc
/-- All that is known where complements are added. -/
structure CoAll (x out : NetV) (P : Nat) (l : List Nat) : Prop where
  nx : isNet x.p x.pre x.post x.s = true
  le : (reachV x).length ≤ 256
  hP : x.p = (P : Int)
  co : CoOk x out P l
  l12 : P + l.length ≤ 12
  lP : ∀ p ∈ l, p < P
  sM : M x.s
  sb : ∀ i, P ≤ i → tb x.s i = false
theorem coAll {x : NetV} (h : (withComplementsV x).2 = 0) : ∃ P, CoAll x (withComplementsV x).1 P (placesL x) ∧ (markingsOfV x).2 = 0 ∧ (withComplementsV x).1 = complL x x (placesL x) := by
  by_cases hz : (markingsOfV x).2 = 0
  · obtain ⟨h1, h2, h3⟩ := markingsOf_zero hz
    obtain ⟨v3, v4⟩ := placesL_pop hz
    have hl := isNet_len h1
    obtain ⟨P, hP⟩ := Int.eq_ofNat_of_zero_le hl.2.2.1
    have hV : withComplementsV x = if x.p + popc (needV x).toNat ≤ 12 then (complL x x (placesL x), 0) else (⟨0, [], [], 0⟩, 3) := by unfold withComplementsV; rw [if_pos hz]
    by_cases h12 : x.p + popc (needV x).toNat ≤ 12
    · rw [if_pos h12] at hV
      have hs0 : 0 ≤ x.s ∧ x.s ≤ full x.p := by
        unfold isNet at h1
        simp at h1; omega
      have hsM := mark_M h1 hs0.1 hs0.2
      rw [hP] at hs0
      have hlP : ∀ p ∈ placesL x, p < P := fun p hp => by
        unfold placesL at hp
        have := (List.mem_filter.1 hp).1
        have := List.mem_range.1 this
        omega
      have hco := co_all (placesL x) [] x (co_start h1 hP) (by simp; omega)
      refine ⟨P, ⟨h1, h2, hP, by rw [hV]; simpa using hco, by omega, hlP, hsM, fun i hi => tb_of_le (n := P) (by omega) hs0.1 hs0.2 hi⟩, hz, by rw [hV]⟩
    · rw [if_neg h12] at hV
      rw [hV] at h; simp at h
  · unfold withComplementsV at h
    rw [if_neg hz] at h
    exact absurd h hz
section
variable {x out : NetV} {P : Nat} {l : List Nat} (h : CoAll x out P l)
include h
theorem co_net : isNet out.p out.pre out.post out.s = true := by
  have hl := isNet_len h.nx
  have hp := h.co.p
  have h12 := h.l12
  have hfull : ∀ (y : Int), M y → (∀ i, P + l.length ≤ i → tb y i = false) → 0 ≤ y ∧ y ≤ full out.p := fun y hy hb => by
    rw [hp]
    exact ⟨hy.1, le_full (by omega) hy hb⟩
  have hbc : ∀ (f g : Nat → Bool) i, P + l.length ≤ i → bitC P l f g i = false := fun f g i hi => by
    unfold bitC
    rw [if_neg (by omega), dif_neg (by omega)]
  have hs := hfull out.s h.co.ms fun i hi => by rw [h.co.bs]; exact hbc _ _ i hi
  refine isNet_end (by simp; omega) (by rw [h.co.n1, h.co.n2]) (by rw [h.co.n1]; omega) (by simp; exact hs) fun a ha => ?_
  rw [h.co.n1] at ha
  have q1 := hfull _ (h.co.m1 a ha) fun i hi => by rw [h.co.b1 a ha]; exact hbc _ _ i hi
  have q2 := hfull _ (h.co.m2 a ha) fun i hi => by rw [h.co.b2 a ha]; exact hbc _ _ i hi
  have p1 : nth x.pre a ∈ x.pre ++ x.post := List.mem_append_left _ (nth_mem ha)
  have p2 : nth x.post a ∈ x.pre ++ x.post := List.mem_append_right _ (nth_mem (by omega))
  have M1 := isNet_M h.nx _ p1
  have M2 := isNet_M h.nx _ p2
  have hne : ibits .or .i64 (nth x.pre a) (nth x.post a) ≠ 0 := by
    have := h.nx
    unfold isNet at this
    simp only [Bool.and_eq_true, List.all_eq_true, List.mem_range] at this
    have := this.2 a ha
    unfold isTr at this
    simp only [Bool.and_eq_true, bne_iff_ne] at this
    exact this.2
  have hne2 : ibits .or .i64 (nth out.pre a) (nth out.post a) ≠ 0 := fun e => hne (by
    rw [eq_zero_iff (M_or (h.co.m1 a ha) (h.co.m2 a ha))] at e
    rw [eq_zero_iff (M_or M1 M2)]
    intro i
    have := e i
    rw [tb_or (h.co.m1 a ha) (h.co.m2 a ha), h.co.b1 a ha, h.co.b2 a ha] at this
    rw [tb_or M1 M2]
    by_cases hiP : i < P
    · simpa [bitC, hiP] using this
    · rw [mask_bits h.co h.nx h.hP (by omega) h.lP p1 i (by omega), mask_bits h.co h.nx h.hP (by omega) h.lP p2 i (by omega)]; rfl)
  show isTr out.p (nth out.pre a) (nth out.post a) = true
  unfold isTr
  simp only [Bool.and_eq_true, bne_iff_ne, decide_eq_true_eq]
  exact ⟨⟨q1, q2⟩, hne2⟩
theorem keyM {m : Int} (hm : m ∈ keys (reachV x)) : (M m ∧ m ≤ full x.p) ∧ ∀ i, P ≤ i → tb m i = false := by
  obtain ⟨r, hr⟩ := reach_ok h.nx
  obtain ⟨p, hp, rfl⟩ := List.mem_map.1 hm
  have := hr.ms p hp
  have hl := isNet_len h.nx
  refine ⟨this, fun i hi => ?_⟩
  have h2 := this.2
  rw [h.hP] at h2
  have h12 := h.l12
  exact tb_of_le (n := P) (by omega) this.1.1 h2 hi
theorem co_keys : ∀ k ∈ keys (reachV out), ∃ m ∈ keys (reachV x), k = liftC P m l l.length := by
  have h12 := h.l12
  obtain ⟨t, ht⟩ := reach_start h.nx
  refine reach_dom (Dm := fun k => ∃ m ∈ keys (reachV x), k = liftC P m l l.length) ⟨x.s, by rw [ht]; simp, co_start_s h.co h.nx h.hP (by omega) h.lP h.sb h.sM⟩ ?_
  rintro _ a ⟨m, hm, rfl⟩ ha hb
  rw [h.co.n1] at ha
  obtain ⟨⟨k1, k2⟩, k3⟩ := keyM h hm
  rw [co_bad h.co h.nx h.hP (by omega) h.lP k1 k3 ha] at hb
  exact ⟨_, reach_cl h.nx h.le hm ha hb, co_to h.co h.nx h.hP (by omega) h.lP k1 k3 ha hb⟩
theorem co_reach : (reachV out).length ≤ 256 := by
  obtain ⟨r, hr⟩ := reach_ok (co_net h)
  have hs : ∀ k ∈ keys (reachV out), k ∈ (keys (reachV x)).map fun m => liftC P m l l.length := fun k hk => by
    obtain ⟨m, hm, e⟩ := co_keys h k hk
    exact List.mem_map.2 ⟨m, hm, e.symm⟩
  have := nodup_le hr.nd hs
  have hle := h.le
  simp at this
  omega
/-- The same runs. -/
theorem co_runAut : runAutV out = runAutV x := by
  have h12 := h.l12
  unfold runAutV
  rw [if_pos (co_net h), if_pos (co_reach h), if_pos h.nx, if_pos h.le, h.co.n1]
  congr 1
  funext w
  rw [co_start_s h.co h.nx h.hP (by omega) h.lP h.sb h.sM]
  exact co_lang h.co h.nx h.hP (by omega) h.lP w x.s h.sM h.sb
end
/-- No contact. -/
theorem co_contact {x : NetV} (h : (withComplementsV x).2 = 0) : (contactOfV (withComplementsV x).1).2.2 = 4 := by
  obtain ⟨P, hA, hz, hc⟩ := coAll h
  have hnet := co_net hA
  have hre := co_reach hA
  have h12 := hA.l12
  have hl := isNet_len hA.nx
  generalize (withComplementsV x).1 = out at *
  have hmk : markingsOfV out = (sortI (keys (reachV out)), 0) := by unfold markingsOfV; rw [if_pos hnet, if_pos hre]
  have hno : ∀ m ∈ keys (reachV x), ∀ a, a < x.pre.length → contM out (liftC P m (placesL x) (placesL x).length) a = 0 := by
    intro m hm a ha
    obtain ⟨⟨k1, k2⟩, k3⟩ := keyM hA hm
    have p1 : nth x.pre a ∈ x.pre ++ x.post := List.mem_append_left _ (nth_mem ha)
    have p2 : nth x.post a ∈ x.pre ++ x.post := List.mem_append_right _ (nth_mem (by omega))
    have M1 := isNet_M hA.nx _ p1
    have M2 := isNet_M hA.nx _ p2
    have ML := lift_M hA.co hA.nx hA.hP (by omega) hA.lP k1
    have LT := lift_tb hA.co hA.nx hA.hP (by omega) hA.lP k1 k3
    unfold contM
    split
    · rename_i h0
      rw [eq_zero_iff (M_andNot (hA.co.m1 a ha) ML)] at h0
      have hpre : ∀ i, tb (nth out.pre a) i = true → tb (liftC P m (placesL x) (placesL x).length) i = true := fun i hi => by
        have := h0 i
        rw [tb_andNot (hA.co.m1 a ha) ML, hi] at this
        simpa using this
      have hprex : ∀ i, i < P → tb (nth x.pre a) i = true → tb m i = true := fun i hi hp => by
        have := hpre i (by rw [hA.co.b1 a ha]; simp [bitC, hi, hp])
        rw [LT] at this
        simpa [bitC, hi] using this
      rw [eq_zero_iff (M_and (M_andNot ML (hA.co.m1 a ha)) (hA.co.m2 a ha))]
      intro i
      rw [tb_and (M_andNot ML (hA.co.m1 a ha)) (hA.co.m2 a ha), tb_andNot ML (hA.co.m1 a ha), LT, hA.co.b1 a ha, hA.co.b2 a ha]
      by_cases hiP : i < P
      · simp only [bitC, hiP, if_true]
        cases q3 : tb m i
        · rfl
        · cases q1 : tb (nth x.pre a) i
          · cases q2 : tb (nth x.post a) i
            · rfl
            · exfalso
              have hcx : tb (contM x m a) i = true := by
                have hz0 : ibits .andNot .i64 (nth x.pre a) m = 0 := by
                  rw [eq_zero_iff (M_andNot M1 k1)]
                  intro j
                  rw [tb_andNot M1 k1]
                  by_cases hj : j < P
                  · cases e : tb (nth x.pre a) j
                    · rfl
                    · rw [hprex j hj e]; rfl
                  · rw [mask_bits hA.co hA.nx hA.hP (by omega) hA.lP p1 j (by omega)]; rfl
                unfold contM
                rw [if_pos hz0, tb_and (M_andNot k1 M1) M2, tb_andNot k1 M1, q1, q2, q3]; rfl
              have hne : tb (needV x) i = true := by
                unfold needV
                refine (needL_has hA.nx i _ 0 (marks_ok hA.nx) ⟨M_zero, ?_⟩).2 m (by rw [sortI_mem]; exact hm) a ha hcx
                rw [hA.hP]; exact le_full (by omega) M_zero fun i _ => by simp
              have hip : i ∈ placesL x := by
                unfold placesL
                refine List.mem_filter.2 ⟨List.mem_range.2 ?_, hne⟩
                have := hA.hP; omega
              obtain ⟨j, hj, e⟩ := List.mem_iff_getElem.1 hip
              have hgb : tb (nth out.pre a) (P + j) = true := by
                rw [hA.co.b1 a ha]
                unfold bitC
                rw [if_neg (by omega), dif_pos (by omega)]
                have e2 : P + j - P = j := by omega
                simp only [e2, e]
                unfold givesB
                rw [q1, q2]; rfl
              have := hpre _ hgb
              rw [LT] at this
              unfold bitC at this
              rw [if_neg (by omega), dif_pos (by omega)] at this
              have e2 : P + j - P = j := by omega
              simp only [e2, e, q3] at this
              cases this
          · rfl
      · simp only [bitC, hiP, if_false]
        split
        · rename_i hj
          have hpl := hA.lP _ (List.getElem_mem hj)
          have hpr := hprex _ hpl
          generalize (placesL x)[i - P] = p at *
          unfold givesB takesB
          cases q1 : tb (nth x.pre a) p <;> cases q2 : tb (nth x.post a) p <;> cases q3 : tb m p <;> simp [q1, q2, q3] at hpr ⊢
        · rfl
    · rfl
  have hF : ∀ L : List Int, (∀ k ∈ L, k ∈ keys (reachV out)) → contF out L = none := by
    intro L
    induction L with
    | nil => intro _; rfl
    | cons k L ih =>
      intro hL
      obtain ⟨m, hm, e⟩ := co_keys hA k (hL k (by simp))
      have : contA out k = none := contA_none fun b hb => by rw [e]; exact hno m hm b (by rw [hA.co.n1] at hb; exact hb)
      rw [contF, this]
      exact ih fun z hz => hL z (by simp [hz])
  unfold contactOfV
  rw [hmk, if_pos rfl, hF _ fun k hk => by rwa [sortI_mem] at hk]
/-- No contact at all: nothing is added. -/
theorem co_none {x : NetV} (h : (withComplementsV x).2 = 0) (hc : (contactOfV x).2.2 = 4) : (withComplementsV x).1.p = x.p := by
  obtain ⟨P, hA, hz, he⟩ := coAll h
  have hF : contF x (markingsOfV x).1 = none := by
    unfold contactOfV at hc
    rw [if_pos hz] at hc
    cases hq : contF x (markingsOfV x).1 with
    | none => rfl
    | some p => rw [hq] at hc; simp at hc
  obtain ⟨g1, g2, g3⟩ := markingsOf_zero hz
  rw [g3] at hF
  have hno : ∀ L : List Int, contF x L = none → ∀ m ∈ L, ∀ a, a < x.pre.length → contM x m a = 0 := by
    intro L
    induction L with
    | nil => intro _ m hm; cases hm
    | cons k L ih =>
      intro hn m hm a ha
      rw [contF] at hn
      cases hq : contA x k with
      | some b => rw [hq] at hn; cases hn
      | none =>
        rw [hq] at hn
        rcases List.mem_cons.1 hm with rfl | hm
        · unfold contA at hq
          rw [List.find?_eq_none] at hq
          have := hq a (List.mem_range.2 ha)
          simpa using this
        · exact ih hn m hm a ha
  have hcon := hno _ hF
  have hneed : needV x = 0 := by
    unfold needV
    have hR : ∀ m, (∀ a, a < x.pre.length → contM x m a = 0) → ∀ k, k ≤ x.pre.length → needR x m 0 k = 0 := by
      intro m hm k
      induction k with
      | zero => intro _; rfl
      | succ k ih =>
        intro hk
        rw [needR, ih (by omega), hm k (by omega)]
        exact or_zero' M_zero
    have hL : ∀ L : List Int, (∀ m ∈ L, ∀ a, a < x.pre.length → contM x m a = 0) → needL x 0 L = 0 := by
      intro L
      induction L with
      | nil => intro _; rfl
      | cons m L ih =>
        intro hm
        rw [needL, hR m (hm m (by simp)) _ (Nat.le_refl _)]
        exact ih fun z hz => hm z (by simp [hz])
    exact hL _ hcon
  have hpl : placesL x = [] := by
    unfold placesL
    rw [hneed]
    simp
  rw [he, hpl]; rfl
end Go.AM
