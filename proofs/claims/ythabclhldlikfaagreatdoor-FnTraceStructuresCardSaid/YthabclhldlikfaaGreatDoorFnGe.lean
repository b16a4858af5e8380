/-
  Runs over places, read; last events, pasts, views.
-/
import Derived.Test.YthabclhldlikfaaGreatDoorFnGd
set_option linter.unusedVariables false
set_option linter.unusedSimpArgs false
set_option maxRecDepth 100000
set_option maxHeartbeats 1600000
namespace Go.AM
open Go.Proofs
/-- A word's letters as numbers. -/
def wn (w : List Int) : List Nat := w.map Int.toNat
theorem overW_wn {n : Nat} {w : List Int} (h : overW n w = true) : w = nats (wn w) ∧ WOk n (wn w) ∧ (wn w).length ≤ 24 := by
  unfold overW at h
  simp only [Bool.and_eq_true, List.all_eq_true, decide_eq_true_eq] at h
  refine ⟨?_, ⟨by simp [wn]; omega, ?_⟩, by simp [wn]; omega⟩
  · unfold nats wn
    rw [List.map_map]
    refine (List.map_id w).symm.trans (List.map_congr_left fun x hx => ?_)
    have := h.2 x hx
    simp; omega
  · intro a ha
    obtain ⟨x, hx, rfl⟩ := List.mem_map.1 ha
    have := h.2 x hx
    omega
theorem overW_nats {n : Nat} {w : List Int} (h : overW n w = true) : ∃ u : List Nat, w = nats u ∧ WOk n u ∧ u.length ≤ 24 := ⟨wn w, overW_wn h⟩
def readCode (n : Int) (pl w : List Int) : Int := if arePl n pl = true then (if overW pl.length w = true then 0 else 2) else 1
def procOk (n : Int) (ps : List Int) : Bool := ps.all fun x => decide (0 ≤ x) && decide (x ≤ n - 1)
def gosCode (n : Int) (pl w ps : List Int) : Int := if arePl n pl = true then (if overW pl.length w = true then (if procOk n ps = true then 0 else 2) else 2) else 1
@[simp] theorem gosV_n {n : Int} {pl : List Int} {u : List Nat} : (gosV n pl u).n = n := rfl
@[simp] theorem gosV_pl {n : Int} {pl : List Int} {u : List Nat} : (gosV n pl u).pl = pl := rfl
@[reducible] def gosNo : AV := .agg [iv 0, .val (.slice none 0 0), .val (.slice none 0 0), .val (.slice none 0 0)]
end Go.AM
