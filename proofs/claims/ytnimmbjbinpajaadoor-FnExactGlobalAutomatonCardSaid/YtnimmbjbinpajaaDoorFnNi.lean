/-
  Minimal automata of machines; the automaton of a net's runs: the program.
-/
import Derived.Test.YtnimmbjbinpajaaDoorFnNh
import Derived.Test.YtnimmbjbinpajaaDoorFnAt
import Derived.Test.YtnimmbjbinpajaaDoorFnMgI
set_option linter.unusedVariables false
set_option linter.unusedSimpArgs false
set_option linter.unusedSectionVars false
set_option maxRecDepth 100000
set_option maxHeartbeats 1600000
namespace Go.AM
open Go.Proofs
/-- The mask of the final states. -/
def finM (f : List Bool) : Nat → Int
  | 0 => 0
  | k + 1 => if bAt f k then ibits .or .i64 (finM f k) (pow1 k) else finM f k
/-- The minimal automaton of a language, or that it has too many states. -/
noncomputable def autL (L : Nat) (l : Lang) : AutV × Int := if (canM L l).next.length ≤ 16 then (⟨L, 0, finM (canM L l).fin (canM L l).fin.length, (canM L l).next⟩, 0) else (⟨0, 0, 0, []⟩, 3)
theorem canon_len {L : Nat} {l : Lang} {rows : List (List Int)} {fins : List Bool} (h : IsCanon L l rows fins) : fins.length = rows.length := by
  obtain ⟨N, Ls, h1, h2, h3⟩ := h
  obtain ⟨_, _, _, h4, _, _⟩ := cIter_ok L l N
  rw [h1] at h4
  have := h4 (by simp only; omega)
  simp only at this
  rw [h3, List.length_map]; omega
theorem canM_len (L : Nat) (l : Lang) : (canM L l).fin.length = (canM L l).next.length := by
  unfold canM canonOf
  split
  · rename_i h
    exact canon_len (Classical.choose_spec h)
  · rfl
theorem automaton_spec (a b c : Bool) (m : MchV) (hm : MchOk m) (hn : m.next.length ≤ 65535) (h8 : m.letters ≤ 8) (start : Nat) (hs : start < m.next.length) (hN : Void (langV m start) → ACalls1 Tryd.prog 113 [iv m.letters] (canO m.letters (langV m start))) :
    ACalls1 Tryd.prog 63 [machA a b c m start] (.tup [autOw false true (autL m.letters (langV m start)).1, iv (autL m.letters (langV m start)).2]) := by
  have hM := minimal_spec a b c m hm hn h8 start hs hN
  unfold autL
  generalize langV m start = l at *
  refine walk (fun t => t == 1) mixed Go.Proofs.Tryd.func63 rfl rfl rfl (by kernel_rfl) rfl (by simp) (by kernel_rfl) ?_
  simp
  refine ⟨_, hM, ?_⟩
  by_cases h16 : (canM m.letters l).next.length ≤ 16
  · have h1 : ¬ (16 : Int) < ((canM m.letters l).next.length : Int) := by omega
    have h2 : (((canM m.letters l).next.length : Nat) : Int) ≤ 16 := by omega
    have hfl := canM_len m.letters l
    simp [h16, h1, h2]
    generalize canM m.letters l = C at *
    refine awp_loop2 [2, 5, 23, 24] [2, 10002, 10003] (fun k : Nat => [(25, iv k)]) (fun k => [(5, .box [iv m.letters, iv 0, iv (finM C.fin k), .ref 10003])]) (fun k => k ≤ C.fin.length) (fun k => C.fin.length - k) 0 (weak_mk some (by simp) (by simp [finM]) rfl) (by simp) ?_
    intro k hk
    by_cases hlt : k < C.fin.length
    · have hfs : finM C.fin (k + 1) = if bAt C.fin k then ibits .or .i64 (finM C.fin k) (pow1 k) else finM C.fin k := rfl
      cases hb : bAt C.fin k
      · rw [hb] at hfs
        simp [hlt, hb, show k + 1 ≤ C.fin.length from hlt]
        try simp only [wrap_id ((k : Int) + 1) (by omega) (by omega)]
        exact Round.mk (k + 1) (weak_mk some (by simp) (by simp [hfs]) rfl) hlt (by omega)
      · rw [hb] at hfs
        simp [hlt, hb, show k + 1 ≤ C.fin.length from hlt]
        refine ⟨_, one_spec k (by omega), ?_⟩
        simp
        first | refine ⟨⟨by kernel_rfl, by kernel_rfl⟩, ?_⟩ | exact ⟨by kernel_rfl, by kernel_rfl⟩
        try simp only [wrap_id ((k : Int) + 1) (by omega) (by omega)]
        exact Round.mk (k + 1) (weak_mk some (by simp) (by simp [hfs]) rfl) hlt (by omega)
    · obtain rfl : k = C.fin.length := by omega
      simp
  · have h1 : (16 : Int) < ((canM m.letters l).next.length : Int) := by omega
    have h2 : ¬ (((canM m.letters l).next.length : Nat) : Int) ≤ 16 := by omega
    simp [h16, h1, h2]
end Go.AM
