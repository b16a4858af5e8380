/-
  DeadMarkings: both sides.
-/
import Derived.Test.YtimfhkglmiihgaaFnMc
import Derived.Test.YtimfhkglmiihgaaFnDf
set_option linter.unusedVariables false
set_option linter.unusedSimpArgs false
set_option maxRecDepth 100000
set_option maxHeartbeats 1600000
namespace Go.AM
open Go.Proofs
def isDead (x : NetV) (m : Int) : Bool := enabUpTo x m x.pre.length == 0
def deadMarkingsV (x : NetV) : List Int × Int := if (markingsOfV x).2 = 0 then ((markingsOfV x).1.filter (isDead x), 0) else ([], (markingsOfV x).2)
theorem dead1_spec (n1 n2 : Bool) (x : NetV) (hx : isNet x.p x.pre x.post x.s = true) (m : Int) : ACalls1 Try.prog 52 [iv m, .ip [iv x.p, .sl 1 n1 (ints x.pre), .sl 1 n2 (ints x.post), iv x.s]] (bv (enabUpTo x m x.pre.length != 0)) := by
  have hl := isNet_len hx
  refine walk (fun _ => false) mixed Go.Proofs.Try.func52 rfl rfl rfl (by kernel_rfl) rfl (by simp) (by kernel_rfl) ?_
  simp
  refine ⟨_, enabled_spec _ _ x m hl.1 hl.2.1, ?_⟩
  simp
theorem DeadMarkings_spec (n1 n2 : Bool) (x : NetV) (hx : NetOk x) : ACalls1 Try.prog 25 [netSl n1 n2 x] (.tup [.own 1 false (ints (deadMarkingsV x).1), iv (deadMarkingsV x).2]) := by
  refine walk (fun t => t == 1 || t == 2016) mixed Go.Proofs.Try.func25 rfl rfl rfl (by kernel_rfl) rfl (by simp) (by kernel_rfl) ?_
  simp
  refine ⟨_, MarkingsOf_spec _ _ x hx, ?_⟩
  unfold deadMarkingsV
  by_cases h : (markingsOfV x).2 = 0
  · obtain ⟨h1, h2, h3⟩ := markingsOf_zero h
    have hlen : (markingsOfV x).1.length ≤ 256 := by rw [h3]; simp; exact h2
    have e : (fun y => !(enabUpTo x y x.pre.length != 0)) = isDead x := by
      funext y; unfold isDead; simp [bne]
    simp [h]
    refine ⟨_, _, DeleteFunc_spec false (markingsOfV x).1 (by omega) _ [.ip [iv x.p, .sl 1 n1 (ints x.pre), .sl 1 n2 (ints x.post), iv x.s]] (fun y => enabUpTo x y x.pre.length != 0) (fun n _ => dead1_spec n1 n2 x h1 n) rfl rfl, ?_⟩
    rw [e]
    simp
  · simp [h]
theorem specDeadMarkings_spec (n1 n2 : Bool) (x : NetV) (hx : NetOk x) : ACalls1 Try.prog 24 [netSl n1 n2 x] (.tup [.own 1 false (ints (deadMarkingsV x).1), iv (deadMarkingsV x).2]) := by
  refine walk (fun t => t == 1) mixed Go.Proofs.Try.func24 rfl rfl rfl (by kernel_rfl) rfl (by simp) (by kernel_rfl) ?_
  simp
  refine ⟨_, specMarkingsOf_spec _ _ x hx, ?_⟩
  unfold deadMarkingsV
  by_cases h : (markingsOfV x).2 = 0
  · obtain ⟨h1, h2, h3⟩ := markingsOf_zero h
    have hn := isNet_len h1
    have hlen : (markingsOfV x).1.length ≤ 256 := by rw [h3]; simp; exact h2
    have hmk : ∀ y ∈ (markingsOfV x).1, M y := fun y hy => by rw [h3] at hy; exact (marks_ok h1 y hy).1
    generalize (markingsOfV x).1 = l at *
    simp [h]
    refine awp_loop2 [1, 4] [11000] (fun k : Nat => [(7, iv k), (6, .ref 100)]) (fun k => [(100, .own 1 true (ints ((l.take k).filter (isDead x))))]) (fun k => k ≤ l.length) (fun k => l.length - k) 0 (weak_mk (fun t => if t = 100 then some 16 else some t) (by simp) (by simp) rfl) (by simp) ?_
    intro k hk
    have hfl := length_filter_take (isDead x) l k
    by_cases hkl : k < l.length
    · have hst := take_succ_filter (p := isDead x) hkl
      simp [hkl, show k + 1 ≤ l.length from hkl]
      repeat (rw [exE_eq]; simp [hkl, show k + 1 ≤ l.length from hkl])
      refine ⟨_, l17Enabled_spec _ _ x (nth l k) (isNet_M h1) (hmk _ (nth_mem hkl)) hn.1 hn.2.1, ?_⟩
      by_cases hd : enabUpTo x (nth l k) x.pre.length = 0
      · have : isDead x (nth l k) = true := by unfold isDead; simp [hd]
        rw [this, if_pos rfl] at hst
        simp [hd, hkl, show k + 1 ≤ l.length from hkl, wrap_id ((k : Int) + 1) (by omega) (by omega)]
        repeat (refine And.intro (by omega) ?_)
        exact Round.mk (k + 1) (weak_mk (fun t => if t = 100 then some 36 else some t) (by simp) (by simp [hst]) rfl) hkl (by omega)
      · have : isDead x (nth l k) = false := by unfold isDead; simp [hd]
        rw [this] at hst
        simp [hd, wrap_id ((k : Int) + 1) (by omega) (by omega)]
        exact Round.mk (k + 1) (weak_mk some (by simp) (by simp [hst]) rfl) hkl (by omega)
    · obtain rfl : k = l.length := by omega
      simp
  · simp [h]
theorem DeadMarkings_fits (x : NetV) (hx : NetOk x) : ListOk (deadMarkingsV x).1 := by
  obtain ⟨h1, h2⟩ := MarkingsOf_fits x hx
  unfold deadMarkingsV
  split
  · refine ⟨?_, fun y hy => h2 y (List.mem_filter.1 hy).1⟩
    have := List.length_filter_le (isDead x) (markingsOfV x).1
    unfold Fits at h1
    show (List.filter (isDead x) (markingsOfV x).1).length < 1099511627776
    omega
  · simp [ListOk, Fits]
end Go.AM
