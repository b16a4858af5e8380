/-
  Machines: what the program asks of them first: keys of words, copies, which states are useful.
-/
import Derived.Test.YtnimmbjbinpajaaDoorFnNb
import Derived.Test.YtnimmbjbinpajaaDoorAmBl
set_option linter.unusedVariables false
set_option linter.unusedSimpArgs false
set_option linter.unusedSectionVars false
set_option maxRecDepth 100000
set_option maxHeartbeats 1600000
namespace Go.AM
open Go.Proofs
@[reducible] def machA (a b c : Bool) (m : MchV) (s : Int) : AV := .agg [iv m.letters, iv s, .sl 1 c (bls m.fin), .sl 1 a (srows b m.next)]
@[reducible] def machO (a b c : Bool) (m : MchV) (s : Int) : AV := .agg [iv m.letters, iv s, .own 1 c (bls m.fin), .own 1 a (orows b m.next)]
theorem set_u8 (w : List Int) (k : Nat) (hk : k < w.length) : ((w.take k).map u8 ++ List.replicate (w.length - k) 0).set k (u8 (nth w k)) = (w.take (k + 1)).map u8 ++ List.replicate (w.length - (k + 1)) 0 := by
  have e : w.length - k = (w.length - (k + 1)) + 1 := by omega
  have h1 : (w.take (k + 1)).map u8 = (w.take k).map u8 ++ [u8 w[k]] := by rw [List.take_succ_eq_append_getElem hk, List.map_append]; rfl
  have h2 : ((w.take k).map u8).length = k := by simp; omega
  rw [h1, nth_at hk, List.set_append_right _ _ (by omega), h2, Nat.sub_self, e, List.replicate_succ, List.set_cons_zero, List.append_assoc]; rfl
theorem wordKey_spec (a : Bool) (w : List Int) (hw : w.length ≤ 1000000) : ACalls1 Tryd.prog 57 [.sl 1 a (ints w)] (.val (.string (strU (w.map u8)))) := by
  refine walk (fun _ => false) mixed Go.Proofs.Tryd.func57 rfl rfl rfl (by kernel_rfl) rfl (by simp) (by kernel_rfl) ?_
  simp
  refine ⟨by omega, by omega, ?_⟩
  refine awp_loop2 [3, 9, 10] [] (fun k : Nat => [(11, iv k)]) (fun k => [(8, .own 1 true (byU ((w.take k).map u8 ++ List.replicate (w.length - k) 0)))]) (fun k => k ≤ w.length) (fun k => w.length - k) 0 (weak_mk some (by simp) (by simp) rfl) (by simp) ?_
  intro k hk
  by_cases hlt : k < w.length
  · have hs := set_u8 w k hlt
    have hm : min k w.length = k := by omega
    have hL : k < ((w.take k).map u8 ++ List.replicate (w.length - k) 0).length := by simp; omega
    generalize hg : (w.take k).map u8 ++ List.replicate (w.length - k) 0 = m at *
    simp [hlt, hL, show k + 1 ≤ m.length from hL]
    rw [byU_setw _ _ _ hL, hs]
    simp only [wrap_id ((k : Int) + 1) (by omega) (by omega)]
    exact Round.mk (k + 1) (weak_mk some (by simp) (by simp) rfl) hlt (by omega)
  · obtain rfl : k = w.length := by omega
    simp
theorem CloneB_spec (nn : Bool) (l : List Bool) (hl : l.length ≤ 1000000) : ACalls1 Tryd.prog 154 [.sl 1 nn (bls l)] (.own 1 false (bls l)) := by
  refine walk (fun _ => false) mixed Go.Proofs.Tryd.func154 rfl rfl rfl (by kernel_rfl) rfl (by simp) (by kernel_rfl) ?_
  simp
  refine ⟨fun _ h => ?_, by omega, by omega⟩
  have : l = [] := by simpa [bls] using h
  subst this; simp
/-! Which states are useful. -/
def cntTr (l : List Bool) : Nat := l.count true
theorem cntTr_le (l : List Bool) : cntTr l ≤ l.length := List.count_le_length
theorem cntTr_set : ∀ {l : List Bool} {k : Nat}, k < l.length → bAt l k = false → cntTr (l.set k true) = cntTr l + 1
  | [], k, h, _ => by simp at h
  | x :: l, 0, h, h2 => by
    have : x = false := by simpa [bAt] using h2
    subst this
    simp [cntTr]
  | x :: l, k + 1, h, h2 => by
    have ih := cntTr_set (l := l) (k := k) (by simpa using h) (by simpa [bAt] using h2)
    unfold cntTr at ih ⊢
    simp only [List.set_cons_succ, List.count_cons, ih]
    omega
theorem bAt_set {l : List Bool} {k i : Nat} {x : Bool} (h : k < l.length) : bAt (l.set k x) i = if i = k then x else bAt l i := by
  unfold bAt
  simp only [List.getD_eq_getElem?_getD, List.getElem?_set]
  by_cases e : k = i
  · subst e; simp [h]
  · rw [if_neg e, if_neg fun e2 => e e2.symm]
theorem bAt_out {l : List Bool} {i : Nat} (h : l.length ≤ i) : bAt l i = false := by simp [bAt, h]
/-- The condition at one letter of a state. -/
def UOk (m : MchV) (R L : List Bool) (s a : Nat) : Prop := 0 ≤ goV m s a → (bAt R s = true → bAt R (goV m s a).toNat = true) ∧ (bAt L (goV m s a).toNat = true → bAt L s = true)
structure UseInv (m : MchV) (start : Nat) (R L : List Bool) : Prop where
  rl : R.length = m.next.length
  ll : L.length = m.next.length
  st : bAt R start = true
  so : ∀ s, s < m.next.length → bAt L s = true → ¬ Void (langV m s)
  fi : ∀ s, s < m.next.length → finV m s = true → bAt L s = true
theorem use_complete {m : MchV} (hm : MchOk m) {start : Nat} {R L : List Bool} (h : UseInv m start R L) (hc : ∀ s, s < m.next.length → ∀ a, a < m.letters → UOk m R L s a) : ∀ w s, s < m.next.length → langV m s w = true → bAt L s = true := by
  intro w
  induction w with
  | nil => intro s hs hl; exact h.fi s hs (by simpa [langV] using hl)
  | cons a w ih =>
    intro s hs hl
    simp only [langV] at hl
    rw [if_neg (by omega), Int.toNat_natCast] at hl
    split at hl
    · rename_i ha
      have hr := hm.rr s hs a ha
      by_cases hg : goV m s a < 0
      · rw [lang_neg m hg w] at hl; cases hl
      · have := ih (goV m s a).toNat (by omega) (by rw [Int.toNat_of_nonneg (by omega)]; exact hl)
        exact (hc s hs a ha (by omega)).2 this
    · cases hl
theorem use_setR {m : MchV} {start : Nat} {R L : List Bool} (h : UseInv m start R L) {g : Nat} (hg : g < m.next.length) : UseInv m start (R.set g true) L :=
  ⟨by simp [h.rl], h.ll, by
    rw [bAt_set (by rw [h.rl]; exact hg)]
    split
    · rfl
    · exact h.st, h.so, h.fi⟩
theorem use_setL {m : MchV} {start : Nat} {R L : List Bool} (h : UseInv m start R L) {s a : Nat} (hs : s < m.next.length) (ha : a < m.letters) (h0 : 0 ≤ goV m s a) (hr : (goV m s a).toNat < m.next.length) (hb : bAt L (goV m s a).toNat = true) : UseInv m start R (L.set s true) :=
  ⟨h.rl, by simp [h.ll], h.st, fun t ht hb2 => by
    rw [bAt_set (by rw [h.ll]; exact hs)] at hb2
    split at hb2
    · rename_i e
      subst e
      have := h.so _ hr hb
      rw [Int.toNat_of_nonneg h0] at this
      intro hv
      apply this
      intro w
      have hd := lang_der m (s := (t : Int)) (by omega) ha
      rw [Int.toNat_natCast] at hd
      rw [← hd]; exact hv (a :: w)
    · exact h.so t ht hb2, fun t ht hf => by
    rw [bAt_set (by rw [h.ll]; exact hs)]
    split
    · rfl
    · exact h.fi t ht hf⟩
/-- The useful states: those of a closed set that lead to a final one. -/
structure UsefulOk (m : MchV) (start : Nat) (u : List Bool) (R : Nat → Prop) : Prop where
  len : u.length = m.next.length
  st : R start
  lt : ∀ s, R s → s < m.next.length
  cl : ∀ s a, R s → a < m.letters → 0 ≤ goV m s a → R (goV m s a).toNat
  iff : ∀ s, s < m.next.length → (bAt u s = true ↔ R s ∧ ¬ Void (langV m s))
theorem useful_live {m : MchV} {start : Nat} {u : List Bool} {R : Nat → Prop} (h : UsefulOk m start u R) : LiveOk m (fun s => bAt u s = true) :=
  ⟨fun s hs hu => ((h.iff s hs).1 hu).2, fun s a hs hu ha h0 => by
    have hR := h.cl s a ((h.iff s hs).1 hu).1 ha h0
    rw [h.iff _ (h.lt _ hR), Int.toNat_of_nonneg h0]
    exact ⟨fun h => h.2, fun h => ⟨hR, h⟩⟩⟩
theorem useful_spec (a b c : Bool) (m : MchV) (hm : MchOk m) (hn : m.next.length ≤ 65535) (h8 : m.letters ≤ 8) (start : Nat) (hs : start < m.next.length) :
    ACalls Tryd.prog 112 [machA a b c m start] (fun xs r => xs = [machA a b c m start] ∧ ∃ u R, UsefulOk m start u R ∧ r = .own 1 true (bls u)) := by
  have hfl := hm.f
  refine walkR (fun t => t == 1 || t == 1011) mixed Go.Proofs.Tryd.func112 rfl rfl rfl (by kernel_rfl) (by simp) (by simp) (by simp) (by kernel_rfl) ?_
  simp
  refine ⟨by omega, by omega, ?_⟩
  refine ⟨_, CloneB_spec c m.fin (by omega), ?_⟩
  simp
  first | refine ⟨⟨by kernel_rfl, by kernel_rfl⟩, ?_⟩ | exact ⟨by kernel_rfl, by kernel_rfl⟩
  have hst0 : start < (List.replicate m.next.length false).length := by simpa using hs
  refine ⟨by omega, ?_⟩
  have e0 := bls_set (List.replicate m.next.length false) start true hst0
  simp only [e0]
  refine awp_loop2 [1, 3, 4] [] (fun s : List Bool × List Bool × Bool => [(5, bv s.2.2)]) (fun s => [(14, .own 1 true (bls s.1)), (17, .own 1 false (bls s.2.1))]) (fun s => UseInv m start s.1 s.2.1 ∧ (s.2.2 = false → ∀ t, t < m.next.length → ∀ e, e < m.letters → UOk m s.1 s.2.1 t e)) (fun s => (2 * m.next.length - (cntTr s.1 + cntTr s.2.1)) * 2 + (if s.2.2 then 1 else 0)) ((List.replicate m.next.length false).set start true, m.fin, true) (weak_mk some (by simp) (by simp) rfl) ⟨?_, by simp⟩ ?_
  · refine ⟨by simp, hfl, by rw [bAt_set hst0, if_pos rfl], fun s hs2 hb hv => ?_, fun s hs2 hf => ?_⟩
    · have := hv []
      simp only [langV, finV] at this
      rw [if_neg (by omega), Int.toNat_natCast] at this
      unfold bAt at hb
      rw [hb] at this; cases this
    · unfold finV at hf
      rw [if_neg (by omega), Int.toNat_natCast] at hf
      exact hf
  rintro ⟨R0, L0, ch0⟩ ⟨hI0, hc0⟩
  simp only at hI0 hc0
  cases ch0
  · -- the end
    have hR0 := hI0.rl
    have hL0 := hI0.ll
    have hcl := hc0 rfl
    simp
    refine awp_loop2 [3, 4, 70] [] (fun k : Nat × List Bool => [(71, iv k.1)]) (fun k => [(14, .own 1 true (bls k.2)), (17, .own 1 false (bls L0))]) (fun k => k.1 ≤ m.next.length ∧ k.2.length = m.next.length ∧ ∀ i, bAt k.2 i = if i < k.1 then bAt R0 i && bAt L0 i else bAt R0 i) (fun k => m.next.length - k.1) (0, R0) (weak_mk some (by simp [hR0]) (by simp) rfl) ⟨by simp, hR0, by simp⟩ ?_
    rintro ⟨k, U⟩ ⟨hk, hU, hUi⟩
    simp only at hk hU hUi
    by_cases hlt : k < m.next.length
    · have hk1 := hUi k
      rw [if_neg (by omega)] at hk1
      have hset := bls_set U k (bAt R0 k && bAt L0 k) (by omega)
      have hnx : ∀ i, bAt (U.set k (bAt R0 k && bAt L0 k)) i = if i < k + 1 then bAt R0 i && bAt L0 i else bAt R0 i := fun i => by
        rw [bAt_set (by omega), hUi i]
        by_cases e : i = k
        · subst e; rw [if_pos rfl, if_pos (by omega)]
        · rw [if_neg e]
          by_cases e2 : i < k
          · rw [if_pos e2, if_pos (by omega)]
          · rw [if_neg e2, if_neg (by omega)]
      cases hb : bAt R0 k
      · rw [hb] at hset hnx hk1
        simp [hlt, hR0, hU, hL0, show k + 1 ≤ m.next.length from hlt, hk1]
        simp only [Bool.false_and] at hset hnx
        rw [hset]
        simp only [wrap_id ((k : Int) + 1) (by omega) (by omega)]
        exact Round.mk (k + 1, U.set k false) (weak_mk some (by simp) (by simp) rfl) ⟨hlt, by simpa using hU, hnx⟩ (by simp only; omega)
      · rw [hb] at hset hnx hk1
        simp [hlt, hR0, hU, hL0, show k + 1 ≤ m.next.length from hlt, hk1]
        simp only [Bool.true_and] at hset hnx
        rw [hset]
        simp only [wrap_id ((k : Int) + 1) (by omega) (by omega)]
        exact Round.mk (k + 1, U.set k (bAt L0 k)) (weak_mk some (by simp) (by simp) rfl) ⟨hlt, by simpa using hU, hnx⟩ (by simp only; omega)
    · obtain rfl : k = m.next.length := by omega
      simp [hR0]
      refine ⟨_, .refl _, ⟨U, ⟨fun s => bAt R0 s = true, ⟨hU, hI0.st, fun s h => Classical.byContradiction fun h2 => ?_, fun s a h ha h0 => ?_, fun s h => ?_⟩⟩, rfl⟩⟩
      · rw [bAt_out (by omega)] at h; cases h
      · have hsl : s < m.next.length := Classical.byContradiction fun h2 => by rw [bAt_out (by omega)] at h; cases h
        exact (hcl s hsl a ha h0).1 h
      · rw [hUi s, if_pos h, Bool.and_eq_true]
        refine and_congr_right fun _ => ⟨fun h2 => hI0.so s h h2, fun h2 => ?_⟩
        apply Classical.byContradiction
        intro h3
        apply h2
        intro w
        cases hw : langV m s w
        · rfl
        · exact absurd (use_complete hm hI0 hcl w s h hw) h3
  · simp
    refine awp_loop2 [1, 3, 4, 24, 25] [] (fun s : Nat × List Bool × List Bool × Bool => [(5, bv s.2.2.2), (26, iv s.1)]) (fun s => [(14, .own 1 true (bls s.2.1)), (17, .own 1 false (bls s.2.2.1))]) (fun s => s.1 ≤ m.next.length ∧ UseInv m start s.2.1 s.2.2.1 ∧ (s.2.2.2 = true → cntTr R0 + cntTr L0 < cntTr s.2.1 + cntTr s.2.2.1) ∧ (s.2.2.2 = false → cntTr R0 + cntTr L0 = cntTr s.2.1 + cntTr s.2.2.1 ∧ ∀ t, t < s.1 → ∀ e, e < m.letters → UOk m s.2.1 s.2.2.1 t e)) (fun s => m.next.length - s.1) (0, R0, L0, false) (weak_mk some (by simp) (by simp) rfl) ⟨by simp, hI0, by simp, by simp⟩ ?_
    rintro ⟨k, R1, L1, ch1⟩ ⟨hk, hI1, hct1, hcf1⟩
    simp only at hk hI1 hct1 hcf1
    by_cases hlt : k < m.next.length
    · have hrl := hm.rl k hlt
      simp [hlt]
      refine awp_loop2 [1, 3, 4, 6, 24, 25, 26, 31, 32] [] (fun s : Nat × List Bool × List Bool × Bool => [(5, bv s.2.2.2), (33, iv s.1)]) (fun s => [(14, .own 1 true (bls s.2.1)), (17, .own 1 false (bls s.2.2.1))]) (fun s => s.1 ≤ m.letters ∧ UseInv m start s.2.1 s.2.2.1 ∧ (s.2.2.2 = true → cntTr R0 + cntTr L0 < cntTr s.2.1 + cntTr s.2.2.1) ∧ (s.2.2.2 = false → cntTr R0 + cntTr L0 = cntTr s.2.1 + cntTr s.2.2.1 ∧ (∀ t, t < k → ∀ e, e < m.letters → UOk m s.2.1 s.2.2.1 t e) ∧ ∀ e, e < s.1 → UOk m s.2.1 s.2.2.1 k e)) (fun s => m.letters - s.1) (0, R1, L1, ch1) (weak_mk some (by simp) (by simp) rfl) ⟨by simp, hI1, hct1, fun h => ⟨(hcf1 h).1, (hcf1 h).2, by simp⟩⟩ ?_
      rintro ⟨j, R, L, ch⟩ ⟨hj, hI, hct, hcf⟩
      simp only at hj hI hct hcf
      have hRl := hI.rl
      have hLl := hI.ll
      by_cases hjl : j < m.letters
      · have hgo := hm.rr k hlt j hjl
        have hgv : nth (nthR m.next k) j = goV m k j := rfl
        have hcr := cntTr_le R
        generalize hge : goV m k j = g at *
        by_cases hg0 : g < 0
        · have hskip : UOk m R L k j := fun h0 => by omega
          simp [hrl, hjl, hgv, hg0, wrap_id ((j : Int) + 1) (by omega) (by omega)]
          exact Round.mk (j + 1, R, L, ch) (weak_mk some (by simp) (by simp) rfl) ⟨hjl, hI, hct, fun h => ⟨(hcf h).1, (hcf h).2.1, fun e he => by
            by_cases e2 : e = j
            · subst e2; exact hskip
            · exact (hcf h).2.2 e (by omega)⟩⟩ (by simp only; omega)
        · obtain ⟨gn, rfl⟩ := Int.eq_ofNat_of_zero_le (show 0 ≤ g by omega)
          have hgn : gn < m.next.length := by omega
          have hgt : (goV m k j).toNat = gn := by rw [hge]; rfl
          have hse : bls (R.set gn true) = _ := (bls_set R gn true (by omega)).symm
          have hsl : bls (L.set k true) = _ := (bls_set L k true (by omega)).symm
          have hstay : (bAt R k = true → bAt R gn = true) → (bAt L gn = true → bAt L k = true) → UOk m R L k j := fun h1 h2 h0 => by rw [hgt]; exact ⟨h1, h2⟩
          have nR : ¬ bAt R gn = true → cntTr (R.set gn true) = cntTr R + 1 := fun h => cntTr_set (by omega) (by simpa using h)
          have nL : ¬ bAt L k = true → cntTr (L.set k true) = cntTr L + 1 := fun h => cntTr_set (by omega) (by simpa using h)
          have iR := use_setR (g := gn) hI hgn
          have iL : ∀ {R : List Bool}, UseInv m start R L → bAt L gn = true → UseInv m start R (L.set k true) := fun h hb => use_setL h hlt hjl (by rw [hge]; omega) (by rw [hgt]; exact hgn) (by rw [hgt]; exact hb)
          have old : ∀ e, UOk m R L k j → e < j + 1 → (∀ e, e < j → UOk m R L k e) → UOk m R L k e := fun e h1 he h2 => by
            by_cases e2 : e = j
            · subst e2; exact h1
            · exact h2 e (by omega)
          have hrk : k < R.length := by omega
          have hrg : gn < R.length := by omega
          have hlk : k < L.length := by omega
          have hlg : gn < L.length := by omega
          have hge0 : cntTr R0 + cntTr L0 ≤ cntTr R + cntTr L := by
            cases hch : ch
            · exact Nat.le_of_eq (hcf hch).1
            · exact Nat.le_of_lt (hct hch)
          have hC : ∀ c1 c2, (bAt R k && !bAt R gn) = c1 → (bAt L gn && !bAt L k) = c2 → UseInv m start (if c1 then R.set gn true else R) (if c2 then L.set k true else L) ∧ ((ch || c1 || c2) = true → cntTr R0 + cntTr L0 < cntTr (if c1 then R.set gn true else R) + cntTr (if c2 then L.set k true else L)) ∧ ((ch || c1 || c2) = false → cntTr R0 + cntTr L0 = cntTr (if c1 then R.set gn true else R) + cntTr (if c2 then L.set k true else L) ∧ (∀ t, t < k → ∀ e, e < m.letters → UOk m (if c1 then R.set gn true else R) (if c2 then L.set k true else L) t e) ∧ ∀ e, e < j + 1 → UOk m (if c1 then R.set gn true else R) (if c2 then L.set k true else L) k e) := by
            intro c1 c2 h1 h2
            cases c1 <;> cases c2
            · simp only [Bool.or_false, Bool.false_eq_true, if_false]
              refine ⟨hI, hct, fun h => ⟨(hcf h).1, (hcf h).2.1, fun e he => old e (hstay (fun h3 => ?_) (fun h3 => ?_)) he (hcf h).2.2⟩⟩
              · rw [h3] at h1; simpa using h1
              · rw [h3] at h2; simpa using h2
            · simp only [Bool.and_eq_true, Bool.not_eq_true'] at h2
              have := nL (by rw [h2.2]; simp)
              simp only [Bool.or_true, Bool.false_eq_true, if_false, if_true]
              exact ⟨iL hI h2.1, fun _ => by omega, fun h => by cases h⟩
            · simp only [Bool.and_eq_true, Bool.not_eq_true'] at h1
              have := nR (by rw [h1.2]; simp)
              simp only [Bool.or_true, Bool.or_false, Bool.false_eq_true, if_false, if_true]
              exact ⟨iR, fun _ => by omega, fun h => by cases h⟩
            · simp only [Bool.and_eq_true, Bool.not_eq_true'] at h1 h2
              have := nL (by rw [h2.2]; simp)
              have := nR (by rw [h1.2]; simp)
              simp only [Bool.or_true, if_true]
              exact ⟨iL iR h2.1, fun _ => by omega, fun h => by cases h⟩
          obtain ⟨c1, hc1⟩ : ∃ c1, (bAt R k && !bAt R gn) = c1 := ⟨_, rfl⟩
          obtain ⟨c2, hc2⟩ : ∃ c2, (bAt L gn && !bAt L k) = c2 := ⟨_, rfl⟩
          have hC := hC c1 c2 hc1 hc2
          cases b1 : bAt R k <;> cases b2 : bAt R gn <;> cases b3 : bAt L gn <;> cases b4 : bAt L k
          all_goals
            rw [b1, b2] at hc1
            rw [b3, b4] at hc2
            simp [hrl, hjl, hgv, hg0, hRl, hLl, hlt, hgn, show k + 1 ≤ m.next.length from hlt, show gn + 1 ≤ m.next.length from hgn, b1, b2, b3, b4, ← hse, ← hsl]
            try simp only [wrap_id ((j : Int) + 1) (by omega) (by omega)]
            exact Round.mk (j + 1, (if c1 then R.set gn true else R), (if c2 then L.set k true else L), ch || c1 || c2) (weak_mk some (by subst hc1; subst hc2; simp) (by subst hc1; subst hc2; simp) rfl) ⟨hjl, hC⟩ (by simp only; omega)
      · obtain rfl : j = m.letters := by omega
        simp [hrl]
        try simp only [wrap_id ((k : Int) + 1) (by omega) (by omega)]
        exact Round.mk (k + 1, R, L, ch) (weak_mk some (by simp) (by simp) rfl) ⟨hlt, hI, hct, fun h => ⟨(hcf h).1, fun t ht => by
          by_cases e : t = k
          · subst e; exact (hcf h).2.2
          · exact (hcf h).2.1 t (by omega)⟩⟩ (by simp only; omega)
    · obtain rfl : k = m.next.length := by omega
      have h1 := cntTr_le R1
      have h2 := cntTr_le L1
      have h3 := hI1.rl
      have h4 := hI1.ll
      simp
      exact Round.mk (R1, L1, ch1) (weak_mk some (by simp) (by simp) rfl) ⟨hI1, fun h => (hcf1 h).2⟩ (by
        simp only
        cases ch1
        · have := (hcf1 rfl).1; simp; omega
        · have := hct1 rfl; simp; omega)
end Go.AM
