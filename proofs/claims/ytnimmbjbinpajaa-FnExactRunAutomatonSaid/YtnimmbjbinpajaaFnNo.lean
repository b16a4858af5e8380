/-
  RunAutomaton: the reference.
-/
import Derived.Test.YtnimmbjbinpajaaFnNm
import Derived.Test.YtnimmbjbinpajaaFnNn
import Derived.Test.YtnimmbjbinpajaaFnNk
set_option linter.unusedVariables false
set_option linter.unusedSimpArgs false
set_option linter.unusedSectionVars false
set_option maxRecDepth 100000
set_option maxHeartbeats 1600000
namespace Go.AM
open Go.Proofs
def refRow (x : NetV) (s : Int) (k : Nat) : List Int := (List.range k).map fun a => idxI (keys (reachV x)) (if fireBad x s a then -1 else fireTo x s a)
theorem refRow_succ (x : NetV) (s : Int) (k : Nat) : refRow x s (k + 1) = refRow x s k ++ [idxI (keys (reachV x)) (if fireBad x s k then -1 else fireTo x s k)] := by simp [refRow, List.range_succ]
/-- The machine of all reached markings, as the reference numbers them. -/
def refM (x : NetV) : MchV := ⟨x.pre.length, List.replicate (reachV x).length true, (keys (reachV x)).map fun s => refRow x s x.pre.length⟩
theorem idxI_at {l : List Int} {n : Int} (h : n ∈ l) : ∃ k : Nat, idxI l n = (k : Int) ∧ k < l.length ∧ nth l k = n := by
  have h1 : 0 ≤ idxI l n := (idxI_iff l n).mpr h
  unfold idxI at h1 ⊢
  split at h1
  · rename_i i hi
    rw [List.findIdx?_eq_some_iff_getElem] at hi
    obtain ⟨h3, h2, _⟩ := hi
    simp at h2
    exact ⟨i, rfl, h3, by rw [nth_at h3]; exact h2⟩
  · simp at h1
theorem idxI_out {l : List Int} {n : Int} (h : n ∉ l) : idxI l n = -1 := idxI_none fun i hi e => h (by rw [← e]; exact nth_mem hi)
section
variable {x : NetV} (hx : isNet x.p x.pre x.post x.s = true) (hl : (reachV x).length ≤ 256)
include hx hl
theorem refM_row {j : Nat} (hj : j < (reachV x).length) {a : Nat} (ha : a < x.pre.length) : (fireBad x (nth (keys (reachV x)) j) a = true ∧ goV (refM x) j a = -1) ∨ (fireBad x (nth (keys (reachV x)) j) a = false ∧ ∃ k : Nat, goV (refM x) j a = (k : Int) ∧ k < (reachV x).length ∧ nth (keys (reachV x)) k = fireTo x (nth (keys (reachV x)) j) a) := by
  have hkl : (keys (reachV x)).length = (reachV x).length := keys_length _
  have e : goV (refM x) j a = idxI (keys (reachV x)) (if fireBad x (nth (keys (reachV x)) j) a then -1 else fireTo x (nth (keys (reachV x)) j) a) := by
    unfold goV refM
    simp only
    rw [nthR_at (by simpa using hj), List.getElem_map, nth_at (by simp [refRow]; exact ha), nth_at (by omega)]
    simp [refRow]
  rw [e]
  obtain ⟨r, hr⟩ := reach_ok hx
  cases hb : fireBad x (nth (keys (reachV x)) j) a
  · right
    simp only [Bool.false_eq_true, if_false]
    have hm := reach_cl hx hl (nth_mem (show j < (keys (reachV x)).length by omega)) ha hb
    obtain ⟨k, k1, k2, k3⟩ := idxI_at hm
    exact ⟨trivial, k, k1, by omega, k3⟩
  · left
    simp only [if_true]
    refine ⟨trivial, idxI_out fun h => ?_⟩
    obtain ⟨p, hp, e⟩ := List.mem_map.1 h
    have := (hr.ms p hp).1
    unfold M at this
    omega
theorem refM_ok : MchOk (refM x) ∧ (refM x).next.length = (reachV x).length ∧ 0 < (refM x).next.length ∧ langV (refM x) 0 = sysLang (netS x) x.s := by
  have hkl : (keys (reachV x)).length = (reachV x).length := keys_length _
  have hnl : (refM x).next.length = (reachV x).length := by simp [refM]
  have hok : MchOk (refM x) := by
    refine ⟨by simp [refM], fun i hi => ?_, fun i hi a ha => ?_⟩
    · unfold refM
      simp only
      rw [nthR_at (by simpa [refM] using hi), List.getElem_map]; simp [refRow]
    · rcases refM_row hx hl (j := i) (by omega) ha with ⟨_, h⟩ | ⟨_, k, k1, k2, _⟩
      · rw [h]; omega
      · rw [k1]; omega
  obtain ⟨t, ht⟩ := reach_start hx
  have h0 : 0 < (reachV x).length := by rw [← hkl, ht]; simp
  refine ⟨hok, hnl, by omega, ?_⟩
  have key : ∀ w (j : Nat), j < (reachV x).length → langV (refM x) (j : Int) w = sysLang (netS x) (nth (keys (reachV x)) j) w := by
    intro w
    induction w with
    | nil =>
      intro j hj
      simp only [langV, finV, sysLang]
      rw [if_neg (by omega), Int.toNat_natCast]
      simp [refM, netS, hj]
    | cons a w ih =>
      intro j hj
      simp only [langV, sysLang]
      rw [if_neg (by omega), Int.toNat_natCast]
      by_cases ha : a < x.pre.length
      · rw [if_pos (show a < (refM x).letters from ha), if_pos (show a < (netS x).L from ha)]
        rcases refM_row hx hl hj ha with ⟨h0, h⟩ | ⟨h0, k, k1, k2, k3⟩
        · rw [h, lang_neg _ (by omega) w]; simp [netS, h0]
        · rw [k1, ih k k2, k3]; simp [netS, h0]
      · rw [if_neg (show ¬ a < (refM x).letters from ha), if_neg (show ¬ a < (netS x).L from ha)]
  funext w
  have := key w 0 h0
  rw [show nth (keys (reachV x)) 0 = x.s by rw [ht]; rfl] at this
  exact this
end
theorem RunAutomaton_fits (x : NetV) (hx : NetOk x) : AutomatonOk (runAutV x).1 := by
  unfold runAutV
  split
  · rename_i h
    split
    · rename_i hl
      obtain ⟨h1, h2, h3, h4⟩ := refM_ok h hl
      have hn := isNet_len h
      have := autL_ok h1 (s := 0) h3 (by show x.pre.length ≤ 8; omega)
      rw [show ((0 : Nat) : Int) = 0 from rfl, h4] at this
      exact this
    · exact zero_aut_ok
  · exact zero_aut_ok
theorem specRunAutomaton_spec (n1 n2 : Bool) (x : NetV) (hx : NetOk x) : ACalls1 Try.prog 14 [netSl n1 n2 x] (.tup [autOw false true (runAutV x).1, iv (runAutV x).2]) := by
  refine walk (fun t => t == 1) mixed Go.Proofs.Try.func14 rfl rfl rfl (by kernel_rfl) rfl (by simp) (by kernel_rfl) ?_
  simp
  refine ⟨_, l17Is_spec _ _ x.p x.pre x.post x.s hx.1, ?_⟩
  unfold runAutV
  cases h : isNet x.p x.pre x.post x.s
  · simp
  · simp
    refine ⟨_, l17Reached_spec _ _ x h, ?_⟩
    have hn := isNet_len h
    have hkl : (keys (reachV x)).length = (reachV x).length := keys_length _
    by_cases hl : (reachV x).length ≤ 256
    · obtain ⟨h1, h2, h3, h4⟩ := refM_ok h hl
      have hMin := l11Minimal_spec false true false (refM x) h1 (by omega) (by show x.pre.length ≤ 8; omega) h3
      rw [h4] at hMin
      simp [hl, show ¬ (256 : Int) < ((reachV x).length : Int) by omega, show ((reachV x).length : Int) ≤ 256 by omega]
      refine ⟨_, l17Letters_spec _ _ x, ?_⟩
      simp
      refine awp_loop2 [1, 2, 4, 6] [2, 19000] (fun i : Nat => [(7, iv i)]) (fun i => [(6, .box [iv x.pre.length, .ref 300, .ref 301]), (300, .own 1 false (orows true (((keys (reachV x)).take i).map fun s => refRow x s x.pre.length))), (301, .own 1 false (bls (List.replicate i true)))]) (fun i => i ≤ (reachV x).length) (fun i => (reachV x).length - i) 0 (weak_mk (fun t => if t = 300 then none else if t = 301 then none else some t) (by simp) (by simp) rfl) (by simp) ?_
      intro i hi
      by_cases hlt : i < (reachV x).length
      · have hk1 := keys_nth hlt
        have hrowT : ((keys (reachV x)).take (i + 1)).map (fun s => refRow x s x.pre.length) = (((keys (reachV x)).take i).map fun s => refRow x s x.pre.length) ++ [refRow x (blAt (reachV x) i).1 x.pre.length] := by
          rw [List.take_succ_eq_append_getElem (by omega), List.map_append, List.map_cons, List.map_nil, ← hk1, nth_at (by omega)]
        have hrowT2 := hrowT
        simp only [List.map_take] at hrowT2
        have hT : (List.replicate i true ++ [true] : List Bool) = List.replicate (i + 1) true := by rw [List.replicate_succ']
        simp [hlt, hkl]
        refine awp_loop2 [1, 2, 4, 6, 7] [2, 19000, 6, 300, 301] (fun a : Nat => [(9, iv a), (8, .ref 302)]) (fun a => [(302, .own 1 true (ints (refRow x (blAt (reachV x) i).1 a)))]) (fun a => a ≤ x.pre.length) (fun a => x.pre.length - a) 0 (weak_mk (fun t => if t = 302 then some 34 else some t) (by simp) (by simp [refRow]) rfl) (by simp) ?_
        intro a ha
        have hrl : (refRow x (blAt (reachV x) i).1 a).length = a := by simp [refRow]
        by_cases hal : a < x.pre.length
        · have hrs := refRow_succ x (blAt (reachV x) i).1 a
          simp [hal, hlt, hkl, hk1, hrl, show i + 1 ≤ (reachV x).length from hlt]
          repeat (rw [exE_eq]; simp [hal, hlt, hkl, hk1, hrl, show i + 1 ≤ (reachV x).length from hlt])
          refine ⟨_, l17Fire_spec _ _ x _ a hal (by omega), ?_⟩
          simp
          refine ⟨_, l01Index_spec _ _ (by unfold Fits; omega) _, ?_⟩
          simp [hrl]
          repeat (refine And.intro (by omega) ?_)
          first | refine ⟨⟨by kernel_rfl, by kernel_rfl⟩, ?_⟩ | exact ⟨by kernel_rfl, by kernel_rfl⟩
          simp only [wrap_id ((a : Int) + 1) (by omega) (by omega)]
          exact Round.mk (a + 1) (weak_mk (fun t => if t = 302 then some 52 else some t) (by simp) (by simp [hrs]) rfl) hal (by omega)
        · obtain rfl : a = x.pre.length := by omega
          simp [hkl]
          repeat (refine And.intro (by omega) ?_)
          simp only [wrap_id ((i : Int) + 1) (by omega) (by omega)]
          exact Round.mk (i + 1) (weak_mk (fun t => if t = 300 then some 57 else if t = 301 then some 62 else some t) (by simp) (by simp [hrowT2, hT]) rfl) hlt (by omega)
      · obtain rfl : i = (reachV x).length := by omega
        rw [← hkl, List.take_length, hkl]
        simp [hkl]
        refine ⟨_, hMin, ?_⟩
        have hLe : (refM x).letters = x.pre.length := rfl
        rw [hLe] at *
        have hA : autL x.pre.length (sysLang (netS x) x.s) = if (canM x.pre.length (sysLang (netS x) x.s)).next.length ≤ 16 then (⟨x.pre.length, 0, finM (canM x.pre.length (sysLang (netS x) x.s)).fin (canM x.pre.length (sysLang (netS x) x.s)).fin.length, (canM x.pre.length (sysLang (netS x) x.s)).next⟩, 0) else (⟨0, 0, 0, []⟩, 3) := rfl
        by_cases h16 : (canM x.pre.length (sysLang (netS x) x.s)).next.length ≤ 16
        · rw [if_pos h16] at hA
          simp [hA, show ¬ (16 : Int) < ((canM x.pre.length (sysLang (netS x) x.s)).next.length : Int) by omega, show ((canM x.pre.length (sysLang (netS x) x.s)).next.length : Int) ≤ 16 by omega]
        · rw [if_neg h16] at hA
          simp [hA, show (16 : Int) < ((canM x.pre.length (sysLang (netS x) x.s)).next.length : Int) by omega, show ¬ ((canM x.pre.length (sysLang (netS x) x.s)).next.length : Int) ≤ 16 by omega]
    · simp [hl, show (256 : Int) < ((reachV x).length : Int) by omega, show ¬ ((reachV x).length : Int) ≤ 256 by omega]
end Go.AM
