/-
  RunAutomaton: the reference.
-/
import Derived.Test.YtnimmbjbinpajaaDoorFnNm
import Derived.Test.YtnimmbjbinpajaaDoorFnNn
import Derived.Test.YtnimmbjbinpajaaDoorFnNk
set_option linter.unusedVariables false
set_option linter.unusedSimpArgs false
set_option linter.unusedSectionVars false
set_option maxRecDepth 100000
set_option maxHeartbeats 1600000
namespace Go.AM
open Go.Proofs
def refRow (x : NetV) (s : Int) (k : Nat) : List Int := (List.range k).map fun a => idxI (keys (reachV x)) (if fireBad x s a then -1 else fireTo x s a)
theorem refRow_succ (x : NetV) (s : Int) (k : Nat) : refRow x s (k + 1) = refRow x s k ++ [idxI (keys (reachV x)) (if fireBad x s k then -1 else fireTo x s k)] := by simp [refRow, List.range_succ]
/-- The machine of all reached markings, as the reference numbers them. -/
def refM (x : NetV) : MchV := ⟨x.pre.length, List.replicate (reachV x).length true, (keys (reachV x)).map fun s => refRow x s x.pre.length⟩
theorem idxI_at {l : List Int} {n : Int} (h : n ∈ l) : ∃ k : Nat, idxI l n = (k : Int) ∧ k < l.length ∧ nth l k = n := by
  have h1 : 0 ≤ idxI l n := (idxI_iff l n).mpr h
  unfold idxI at h1 ⊢
  split at h1
  · rename_i i hi
    rw [List.findIdx?_eq_some_iff_getElem] at hi
    obtain ⟨h3, h2, _⟩ := hi
    simp at h2
    exact ⟨i, rfl, h3, by rw [nth_at h3]; exact h2⟩
  · simp at h1
theorem idxI_out {l : List Int} {n : Int} (h : n ∉ l) : idxI l n = -1 := idxI_none fun i hi e => h (by rw [← e]; exact nth_mem hi)
section
variable {x : NetV} (hx : isNet x.p x.pre x.post x.s = true) (hl : (reachV x).length ≤ 256)
include hx hl
theorem refM_row {j : Nat} (hj : j < (reachV x).length) {a : Nat} (ha : a < x.pre.length) : (fireBad x (nth (keys (reachV x)) j) a = true ∧ goV (refM x) j a = -1) ∨ (fireBad x (nth (keys (reachV x)) j) a = false ∧ ∃ k : Nat, goV (refM x) j a = (k : Int) ∧ k < (reachV x).length ∧ nth (keys (reachV x)) k = fireTo x (nth (keys (reachV x)) j) a) := by
  have hkl : (keys (reachV x)).length = (reachV x).length := keys_length _
  have e : goV (refM x) j a = idxI (keys (reachV x)) (if fireBad x (nth (keys (reachV x)) j) a then -1 else fireTo x (nth (keys (reachV x)) j) a) := by
    unfold goV refM
    simp only
    rw [nthR_at (by simpa using hj), List.getElem_map, nth_at (by simp [refRow]; exact ha), nth_at (by omega)]
    simp [refRow]
  rw [e]
  obtain ⟨r, hr⟩ := reach_ok hx
  cases hb : fireBad x (nth (keys (reachV x)) j) a
  · right
    simp only [Bool.false_eq_true, if_false]
    have hm := reach_cl hx hl (nth_mem (show j < (keys (reachV x)).length by omega)) ha hb
    obtain ⟨k, k1, k2, k3⟩ := idxI_at hm
    exact ⟨trivial, k, k1, by omega, k3⟩
  · left
    simp only [if_true]
    refine ⟨trivial, idxI_out fun h => ?_⟩
    obtain ⟨p, hp, e⟩ := List.mem_map.1 h
    have := (hr.ms p hp).1
    unfold M at this
    omega
theorem refM_ok : MchOk (refM x) ∧ (refM x).next.length = (reachV x).length ∧ 0 < (refM x).next.length ∧ langV (refM x) 0 = sysLang (netS x) x.s := by
  have hkl : (keys (reachV x)).length = (reachV x).length := keys_length _
  have hnl : (refM x).next.length = (reachV x).length := by simp [refM]
  have hok : MchOk (refM x) := by
    refine ⟨by simp [refM], fun i hi => ?_, fun i hi a ha => ?_⟩
    · unfold refM
      simp only
      rw [nthR_at (by simpa [refM] using hi), List.getElem_map]; simp [refRow]
    · rcases refM_row hx hl (j := i) (by omega) ha with ⟨_, h⟩ | ⟨_, k, k1, k2, _⟩
      · rw [h]; omega
      · rw [k1]; omega
  obtain ⟨t, ht⟩ := reach_start hx
  have h0 : 0 < (reachV x).length := by rw [← hkl, ht]; simp
  refine ⟨hok, hnl, by omega, ?_⟩
  have key : ∀ w (j : Nat), j < (reachV x).length → langV (refM x) (j : Int) w = sysLang (netS x) (nth (keys (reachV x)) j) w := by
    intro w
    induction w with
    | nil =>
      intro j hj
      simp only [langV, finV, sysLang]
      rw [if_neg (by omega), Int.toNat_natCast]
      simp [refM, netS, hj]
    | cons a w ih =>
      intro j hj
      simp only [langV, sysLang]
      rw [if_neg (by omega), Int.toNat_natCast]
      by_cases ha : a < x.pre.length
      · rw [if_pos (show a < (refM x).letters from ha), if_pos (show a < (netS x).L from ha)]
        rcases refM_row hx hl hj ha with ⟨h0, h⟩ | ⟨h0, k, k1, k2, k3⟩
        · rw [h, lang_neg _ (by omega) w]; simp [netS, h0]
        · rw [k1, ih k k2, k3]; simp [netS, h0]
      · rw [if_neg (show ¬ a < (refM x).letters from ha), if_neg (show ¬ a < (netS x).L from ha)]
  funext w
  have := key w 0 h0
  rw [show nth (keys (reachV x)) 0 = x.s by rw [ht]; rfl] at this
  exact this
end
theorem RunAutomaton_fits (x : NetV) (hx : NetOk x) : AutomatonOk (runAutV x).1 := by
  unfold runAutV
  split
  · rename_i h
    split
    · rename_i hl
      obtain ⟨h1, h2, h3, h4⟩ := refM_ok h hl
      have hn := isNet_len h
      have := autL_ok h1 (s := 0) h3 (by show x.pre.length ≤ 8; omega)
      rw [show ((0 : Nat) : Int) = 0 from rfl, h4] at this
      exact this
    · exact zero_aut_ok
  · exact zero_aut_ok
end Go.AM
