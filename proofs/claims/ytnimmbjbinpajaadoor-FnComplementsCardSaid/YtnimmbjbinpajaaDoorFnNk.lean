/-
  The automaton of a net's runs: the reached markings are closed; the program.
-/
import Derived.Test.YtnimmbjbinpajaaDoorFnNi
set_option linter.unusedVariables false
set_option linter.unusedSimpArgs false
set_option linter.unusedSectionVars false
set_option maxRecDepth 100000
set_option maxHeartbeats 1600000
namespace Go.AM
open Go.Proofs
theorem keys_app (L t : BL) : keys (L ++ t) = keys L ++ keys t := by simp [keys]
theorem foA_len {x : NetV} {p : Int × List Int} {L : BL} {j k : Nat} (h : j ≤ k) : ∃ t, foA x p L k = foA x p L j ++ t := by
  induction k with
  | zero => obtain rfl : j = 0 := by omega
            exact ⟨[], by simp⟩
  | succ k ih =>
    by_cases e : j = k + 1
    · subst e; exact ⟨[], by simp⟩
    · obtain ⟨t, ht⟩ := ih (by omega)
      obtain ⟨t', ht'⟩ := stA_ext x p (foA x p L k) k
      exact ⟨t ++ t', by rw [foA_succ, ht', ht, List.append_assoc]⟩
theorem foA_mem {x : NetV} {p : Int × List Int} {L : BL} {k : Nat} (hle : (foA x p L k).length ≤ 256) {a : Nat} (ha : a < k) (hb : fireBad x p.1 a = false) : fireTo x p.1 a ∈ keys (foA x p L k) := by
  obtain ⟨t, ht⟩ := foA_len (x := x) (p := p) (L := L) (show a + 1 ≤ k by omega)
  have hl1 : (foA x p L (a + 1)).length ≤ 256 := by rw [ht] at hle; simp at hle; omega
  have : fireTo x p.1 a ∈ keys (foA x p L (a + 1)) := by
    rw [foA_succ]
    obtain ⟨t', ht'⟩ := foA_len (x := x) (p := p) (L := L) (show a ≤ a + 1 by omega)
    have hl2 : (foA x p L a).length ≤ 256 := by rw [ht'] at hl1; simp at hl1; omega
    unfold stA
    rw [hb]
    simp only [Bool.false_eq_true, if_false]
    by_cases hm : fireTo x p.1 a ∈ keys (foA x p L a)
    · rw [if_pos hm]; exact hm
    · rw [if_neg hm, if_pos hl2, keys_snoc]; simp
  rw [ht, keys_app]
  exact List.mem_append_left _ this
/-- All that a step leads to is there, of the first `i`. -/
def ClA (x : NetV) (i : Nat) (L : BL) : Prop := ∀ j, j < i → j < L.length → ∀ a, a < x.pre.length → fireBad x (blAt L j).1 a = false → fireTo x (blAt L j).1 a ∈ keys L
theorem bfsA_cl {x : NetV} (hx : isNet x.p x.pre x.post x.s = true) : ∀ (f i : Nat) (L : BL), BOk x i L → ClA x i L → 300 ≤ f + i → (bfsA x f i L).length ≤ 256 → ∃ i', (bfsA x f i L).length ≤ i' ∧ ClA x i' (bfsA x f i L)
  | 0, i, L, hb, hc, hf, hl => ⟨i, by have := hb.le; simp only [bfsA]; omega, hc⟩
  | f + 1, i, L, hb, hc, hf, hl => by
    rw [bfsA] at hl ⊢
    split
    · rename_i hi
      rw [if_pos hi] at hl
      have hb2 := foA_ok hx hb hi x.pre.length (Nat.le_refl _)
      obtain ⟨_, t, ht⟩ := bfsA_ok hx f (i + 1) (procA x L i) hb2
      obtain ⟨t', ht'⟩ := foA_ext x (blAt L i) L x.pre.length
      have hpl : (procA x L i).length ≤ 256 := by rw [ht] at hl; simp at hl; omega
      refine bfsA_cl hx f (i + 1) (procA x L i) hb2 (fun j hj hjl a ha hbad => ?_) (by omega) hl
      by_cases e : j < L.length
      · have hat : blAt (procA x L i) j = blAt L j := by unfold procA; rw [ht']; exact blAt_ext e
        rw [hat] at hbad ⊢
        by_cases e2 : j = i
        · subst e2
          exact foA_mem hpl ha hbad
        · have := hc j (by omega) e a ha hbad
          unfold procA
          rw [ht', keys_app]
          exact List.mem_append_left _ this
      · omega
    · rename_i hi
      exact ⟨i, by omega, hc⟩
theorem reach_cl {x : NetV} (hx : isNet x.p x.pre x.post x.s = true) (hl : (reachV x).length ≤ 256) {s : Int} (hs : s ∈ keys (reachV x)) {a : Nat} (ha : a < x.pre.length) (hb : fireBad x s a = false) : fireTo x s a ∈ keys (reachV x) := by
  obtain ⟨i', h1, h2⟩ := bfsA_cl hx 300 0 [(x.s, [])] (bok_start hx) (fun j hj => by omega) (by omega) hl
  obtain ⟨j, hj, e⟩ := List.mem_iff_getElem.1 hs
  rw [keys_length] at hj
  have he : (blAt (reachV x) j).1 = s := by rw [← keys_nth hj, nth_at (by simpa using hj)]; exact e
  have := h2 j (by unfold reachV at hj; omega) hj a ha (by show fireBad x (blAt (reachV x) j).1 a = false; rw [he]; exact hb)
  rw [show (blAt (bfsA x 300 0 [(x.s, [])]) j).1 = s from he] at this
  exact this
theorem reach_start {x : NetV} (hx : isNet x.p x.pre x.post x.s = true) : ∃ t, keys (reachV x) = x.s :: t := by
  obtain ⟨_, t, ht⟩ := bfsA_ok hx 300 0 [(x.s, [])] (bok_start hx)
  exact ⟨keys t, by unfold reachV; rw [ht, keys_app]; rfl⟩
/-- The runs of a net. -/
def netS (x : NetV) : Sys Int := ⟨x.pre.length, fun s a => if fireBad x s a then 0 else fireTo x s a, fun s a => !fireBad x s a, fun _ => true⟩
theorem nodup_le : ∀ {k l : List Int}, k.Nodup → (∀ x ∈ k, x ∈ l) → k.length ≤ l.length
  | [], l, _, _ => by simp
  | x :: k, l, h, hs => by
    obtain ⟨h1, h2⟩ := List.nodup_cons.1 h
    have hx := hs x (by simp)
    have := nodup_le (l := l.erase x) h2 fun y hy => (List.mem_erase_of_ne (fun e => h1 (by rw [← e]; exact hy))).2 (hs y (by simp [hy]))
    have h3 := List.length_erase_of_mem hx
    have h4 := List.length_pos_of_mem hx
    simp; omega
theorem netS_dom {x : NetV} (hx : isNet x.p x.pre x.post x.s = true) (hl : (reachV x).length ≤ 256) : DomOk (netS x) (fun s => s ∈ keys (reachV x)) 256 :=
  ⟨fun s a hs ha hok => by
    have hb : fireBad x s a = false := by simpa [netS] using hok
    simp only [netS, hb, Bool.false_eq_true, if_false]
    exact reach_cl hx hl hs ha hb, fun l hn hl2 => by
    have := nodup_le hn hl2
    rw [keys_length] at this; omega⟩
theorem netS_notVoid (x : NetV) (s : Int) : ¬ Void (sysLang (netS x) s) := fun h => by
  have := h []
  simp [sysLang, netS] at this
/-- The minimal automaton of a net's runs. -/
noncomputable def runAutV (x : NetV) : AutV × Int := if isNet x.p x.pre x.post x.s then (if (reachV x).length ≤ 256 then autL x.pre.length (sysLang (netS x) x.s) else (⟨0, 0, 0, []⟩, 3)) else (⟨0, 0, 0, []⟩, 1)
theorem machine_spec (n1 n2 : Bool) (x : NetV) (hx : isNet x.p x.pre x.post x.s = true) (hl : (reachV x).length ≤ 256) : ACalls1 Tryd.prog 84 [netSl n1 n2 x] (expO (netS x) x.s) := by
  have hn := isNet_len hx
  obtain ⟨t, ht⟩ := reach_start hx
  have hE := explored_b_spec (netS x) (by simp only [netS]; omega) (fun s => s ∈ keys (reachV x)) 256 (by omega) (netS_dom hx hl) x.s (by rw [ht]; simp) 148 [netSl n1 n2 x] (fun s a hs ha => fire_spec n1 n2 x s a ha (by simp only [netS] at ha; omega)) 149 [] (fun s hs => by
    refine walk (fun _ => false) mixed Go.Proofs.Tryd.func149 rfl rfl rfl (by kernel_rfl) rfl (by simp) (by kernel_rfl) ?_
    simp [netS])
  refine walk (fun t => t == 1 || t == 1006) mixed Go.Proofs.Tryd.func84 rfl rfl rfl (by kernel_rfl) rfl (by simp) (by kernel_rfl) ?_
  simp
  repeat (rw [exE_eq]; simp)
  refine ⟨_, length_spec _ _ (by unfold Fits; omega), ?_⟩
  simp
  repeat (rw [exE_eq]; simp)
  refine ⟨_, hE, ?_⟩
  simp
  first | refine ⟨⟨by kernel_rfl, by kernel_rfl⟩, ?_⟩ | exact ⟨by kernel_rfl, by kernel_rfl⟩
theorem RunAutomaton_spec (n1 n2 : Bool) (x : NetV) (hx : NetOk x) : ACalls1 Tryd.prog 26 [netSl n1 n2 x] (.tup [autOw false true (runAutV x).1, iv (runAutV x).2]) := by
  refine walk (fun t => t == 1) mixed Go.Proofs.Tryd.func26 rfl rfl rfl (by kernel_rfl) rfl (by simp) (by kernel_rfl) ?_
  simp
  refine ⟨_, MarkingsOf_spec n1 n2 x hx, ?_⟩
  unfold runAutV
  have hV : markingsOfV x = if isNet x.p x.pre x.post x.s then (if (reachV x).length ≤ 256 then (sortI (keys (reachV x)), 0) else ([], 3)) else ([], 1) := rfl
  cases h : isNet x.p x.pre x.post x.s
  · rw [h] at hV
    simp [hV]
  · rw [h] at hV
    by_cases hl : (reachV x).length ≤ 256
    · rw [if_pos rfl, if_pos hl] at hV
      have hn := isNet_len h
      obtain ⟨t, ht⟩ := reach_start h
      have hst : x.s ∈ keys (reachV x) := by rw [ht]; simp
      have hD := netS_dom h hl
      obtain ⟨e1, e2, e3, e4⟩ := expM_ok hD hst
      have hA := automaton_spec false true false (expM (netS x) x.s) e1 (by omega) (by simp only [expM, netS]; omega) 0 e2 (fun hv => by
        rw [show ((0 : Nat) : Int) = 0 from rfl, e4] at hv
        exact absurd hv (netS_notVoid x x.s))
      rw [show ((0 : Nat) : Int) = 0 from rfl, e4] at hA
      simp [hV, hl]
      refine ⟨_, machine_spec n1 n2 x h hl, ?_⟩
      simp
      refine ⟨_, hA, ?_⟩
      simp [netS, expM]
    · rw [if_pos rfl, if_neg hl] at hV
      simp [hV, hl]
end Go.AM
