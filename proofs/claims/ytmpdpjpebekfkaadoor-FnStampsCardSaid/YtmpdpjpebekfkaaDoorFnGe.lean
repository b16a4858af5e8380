/-
  Runs over places, read; last events, pasts, views.
-/
import Derived.Test.YtmpdpjpebekfkaaDoorFnGd
set_option linter.unusedVariables false
set_option linter.unusedSimpArgs false
set_option maxRecDepth 100000
set_option maxHeartbeats 1600000
namespace Go.AM
open Go.Proofs
/-- A word's letters as numbers. -/
def wn (w : List Int) : List Nat := w.map Int.toNat
theorem overW_wn {n : Nat} {w : List Int} (h : overW n w = true) : w = nats (wn w) ∧ WOk n (wn w) ∧ (wn w).length ≤ 24 := by
  unfold overW at h
  simp only [Bool.and_eq_true, List.all_eq_true, decide_eq_true_eq] at h
  refine ⟨?_, ⟨by simp [wn]; omega, ?_⟩, by simp [wn]; omega⟩
  · unfold nats wn
    rw [List.map_map]
    refine (List.map_id w).symm.trans (List.map_congr_left fun x hx => ?_)
    have := h.2 x hx
    simp; omega
  · intro a ha
    obtain ⟨x, hx, rfl⟩ := List.mem_map.1 ha
    have := h.2 x hx
    omega
theorem overW_nats {n : Nat} {w : List Int} (h : overW n w = true) : ∃ u : List Nat, w = nats u ∧ WOk n u ∧ u.length ≤ 24 := ⟨wn w, overW_wn h⟩
def readCode (n : Int) (pl w : List Int) : Int := if arePl n pl = true then (if overW pl.length w = true then 0 else 2) else 1
def procOk (n : Int) (ps : List Int) : Bool := ps.all fun x => decide (0 ≤ x) && decide (x ≤ n - 1)
def gosCode (n : Int) (pl w ps : List Int) : Int := if arePl n pl = true then (if overW pl.length w = true then (if procOk n ps = true then 0 else 2) else 2) else 1
@[simp] theorem gosV_n {n : Int} {pl : List Int} {u : List Nat} : (gosV n pl u).n = n := rfl
@[simp] theorem gosV_pl {n : Int} {pl : List Int} {u : List Nat} : (gosV n pl u).pl = pl := rfl
@[reducible] def gosNo : AV := .agg [iv 0, .val (.slice none 0 0), .val (.slice none 0 0), .val (.slice none 0 0)]
theorem checkGossip_ok (a b c : Bool) (n : Int) (pl ps : List Int) (h : arePl n pl = true) (u : List Nat) (hw : overW pl.length (nats u) = true) (hu : WOk pl.length u) (h24 : u.length ≤ 24) (hps : Fits ps) (hp : procOk n ps = true) : ACalls1 Tryd.prog 67 [iv n, .sl 1 a (ints pl), .sl 1 b (ints (nats u)), .sl 1 c (ints ps)] (.tup [gosSl a true true (gosV n pl u), iv 0]) := by
  obtain ⟨h8, h1, h4⟩ := pl_len h
  have hwr : IntKind.i64.wrap (n - 1) = n - 1 := wrap_id _ (by omega) (by omega)
  unfold procOk at hp
  refine walk (fun t => t == 3033) mixed Go.Proofs.Tryd.func67 rfl rfl rfl (by kernel_rfl) rfl (by simp) (by kernel_rfl) ?_
  simp
  refine ⟨_, arePlaces_spec n _ pl (by unfold Fits; omega), ?_⟩
  simp [h]
  refine ⟨_, length_spec _ _ (by unfold Fits; omega), ?_⟩
  simp
  refine ⟨_, isOver_spec _ (by omega) _ _ (by unfold Fits; simp; omega), ?_⟩
  simp [hw, hwr]
  refine ⟨_, allIn_spec _ ps 0 (n - 1) hps, ?_⟩
  simp [hp]
  refine ⟨_, newGossip_spec a b n pl h u hu h24, ?_⟩
  simp
theorem checkGossip_no (a b c : Bool) (n : Int) (pl ps w : List Int) (hpl : Fits pl) (hw : Fits w) (hps : Fits ps) (hc : gosCode n pl w ps ≠ 0) : ACalls1 Tryd.prog 67 [iv n, .sl 1 a (ints pl), .sl 1 b (ints w), .sl 1 c (ints ps)] (.tup [gosNo, iv (gosCode n pl w ps)]) := by
  refine walk (fun t => t == 3033) mixed Go.Proofs.Tryd.func67 rfl rfl rfl (by kernel_rfl) rfl (by simp) (by kernel_rfl) ?_
  simp
  refine ⟨_, arePlaces_spec n _ pl hpl, ?_⟩
  unfold gosCode at hc ⊢
  by_cases h : arePl n pl = true
  · obtain ⟨h8, h1, h4⟩ := pl_len h
    have hwr : IntKind.i64.wrap (n - 1) = n - 1 := wrap_id _ (by omega) (by omega)
    simp [h] at hc ⊢
    refine ⟨_, length_spec _ _ hpl, ?_⟩
    simp
    refine ⟨_, isOver_spec _ (by unfold Fits at *; omega) _ _ hw, ?_⟩
    by_cases h2 : overW pl.length w = true
    · simp [h2, hwr] at hc ⊢
      refine ⟨_, allIn_spec _ ps 0 (n - 1) hps, ?_⟩
      unfold procOk at hc
      simp [hc, procOk]
    · simp [h2]
  · simp [h]
theorem l15Read_ok (a b : Bool) (n : Int) (hn : I64 n) (pl : List Int) (h : arePl n pl = true) (u : List Nat) (hw : overW pl.length (nats u) = true) (hu : WOk pl.length u) (h24 : u.length ≤ 24) : ACalls1 Tryd.prog 69 [iv n, .sl 1 a (ints pl), .sl 1 b (ints (nats u))] (.tup [.agg [iv n, .sl 1 a (ints pl), .sl 1 true (ints (nats (gosV n pl u).f)), .own 1 false (ints (gosV n pl u).past)], iv 0]) := by
  obtain ⟨h8, h1, h4⟩ := pl_len h
  have hg := gos_ok h hu h24
  obtain ⟨_, hf, hfl, hpl, _⟩ := hg
  have hpe : (gosV n pl u).past = pastL (stepP pl (gosV n pl u).f) (gosV n pl u).f.length := rfl
  have hfe : (gosV n pl u).f = nf (depP pl) u := rfl
  rw [hpe]
  have hpl' : (gosV n pl u).pl = pl := rfl
  rw [hpl'] at hf
  refine walk (fun t => t == 3030) mixed Go.Proofs.Tryd.func69 rfl rfl rfl (by kernel_rfl) rfl (by simp) (by kernel_rfl) ?_
  simp
  refine ⟨_, l14Places_spec n hn _ pl (by unfold Fits; omega), ?_⟩
  simp [h]
  refine ⟨_, l11Word_spec _ (by omega) _ _ (by unfold Fits; simp; omega), ?_⟩
  simp [hw]
  refine ⟨_, l14Alphabet_spec _ pl h8, ?_⟩
  simp
  refine ⟨_, l03Normal_spec false b ⟨pl.length, depP pl⟩ (by simp [depP_length]) (depP_ok h8) u ⟨hu.1, fun a ha => by simp only [depP_length]; exact hu.2 a ha⟩, ?_⟩
  simp only [← hfe]
  generalize (gosV n pl u).f = f at *
  simp
  refine awp_loop2 [1, 6, 8] [6] (fun k : Nat => [(9, iv k)]) (fun k => [(8, .box [iv n, .sl 1 a (ints pl), .sl 1 true (ints (nats f)), .ref 100]), (100, .own 1 false (ints (pastL (stepP pl f) k)))]) (fun k => k ≤ f.length) (fun k => f.length - k) 0 (weak_mk (fun t => if t = 100 then none else some t) (by simp) (by simp [pastL]) rfl) (by simp) ?_
  intro k hk
  by_cases hkl : k < f.length
  · have hnk := nats_nth hkl
    have hak := hf _ (natAt_mem hkl)
    have hPl := pastL_length (stepP pl f) k
    have hPs : pastL (stepP pl f) (k + 1) = pastL (stepP pl f) k ++ [pr (pastL (stepP pl f) k) (fun j => stepP pl f j k) (pow1 k) k] := rfl
    simp [hkl]
    refine ⟨_, l01One_spec k (by unfold I64; omega), ?_⟩
    simp
    refine awp_loop2 [1, 6, 8, 9] [6, 8, 100] (fun j : Nat => [(11, iv j), (10, iv (pr (pastL (stepP pl f) k) (fun j => stepP pl f j k) (pow1 k) j))]) (fun j => []) (fun j => j ≤ k) (fun j => k - j) 0 (weak_mk some (by simp [pr]) (by simp) rfl) (by simp) ?_
    intro j hj
    by_cases hjl : j < k
    · have hnj := nats_nth (show j < f.length by omega)
      have haj := hf _ (natAt_mem (show j < f.length by omega))
      have hps : pr (pastL (stepP pl f) k) (fun j => stepP pl f j k) (pow1 k) (j + 1) = if stepP pl f j k = true then ibits .or .i64 (pr (pastL (stepP pl f) k) (fun j => stepP pl f j k) (pow1 k) j) (nth (pastL (stepP pl f) k) j) else pr (pastL (stepP pl f) k) (fun j => stepP pl f j k) (pow1 k) j := rfl
      cases hm : stepP pl f j k
      · have h0 : ibits .and .i64 (nth pl (natAt f j)) (nth pl (natAt f k)) = 0 := by simpa [stepP, meets] using hm
        rw [hm] at hps
        simp [hjl, hkl, show j < f.length by omega, show j + 1 ≤ k from hjl, hPl, hnj, hnk, haj, hak, h0, wrap_id ((j : Int) + 1) (by omega) (by omega)]
        repeat (rw [exE_eq]; simp [hjl, hkl, show j < f.length by omega, show j + 1 ≤ k from hjl, hPl, hnj, hnk, haj, hak, h0, wrap_id ((j : Int) + 1) (by omega) (by omega)])
        exact Round.mk (j + 1) (weak_mk some (by simp [hps]) (by simp) rfl) hjl (by omega)
      · have h0 : ¬ ibits .and .i64 (nth pl (natAt f j)) (nth pl (natAt f k)) = 0 := by simpa [stepP, meets] using hm
        rw [hm] at hps
        simp [hjl, hkl, show j < f.length by omega, show j + 1 ≤ k from hjl, hPl, hnj, hnk, haj, hak, h0, wrap_id ((j : Int) + 1) (by omega) (by omega)]
        repeat (rw [exE_eq]; simp [hjl, hkl, show j < f.length by omega, show j + 1 ≤ k from hjl, hPl, hnj, hnk, haj, hak, h0, wrap_id ((j : Int) + 1) (by omega) (by omega)])
        exact Round.mk (j + 1) (weak_mk some (by simp [hps]) (by simp) rfl) hjl (by omega)
    · obtain rfl : j = k := by omega
      simp [wrap_id ((j : Int) + 1) (by omega) (by omega)]
      repeat (refine And.intro (by omega) ?_)
      refine Round.mk (j + 1) (weak_mk (fun t => if t = 100 then some 75 else some t) (by simp) (by simp [hPs]) rfl) hkl (by omega)
  · obtain rfl : k = f.length := by omega
    simp
theorem l15Read_no (a b : Bool) (n : Int) (hn : I64 n) (pl w : List Int) (hpl : Fits pl) (hw : Fits w) (hc : readCode n pl w ≠ 0) : ACalls1 Tryd.prog 69 [iv n, .sl 1 a (ints pl), .sl 1 b (ints w)] (.tup [gosNo, iv (readCode n pl w)]) := by
  refine walk (fun t => t == 3030) mixed Go.Proofs.Tryd.func69 rfl rfl rfl (by kernel_rfl) rfl (by simp) (by kernel_rfl) ?_
  simp
  refine ⟨_, l14Places_spec n hn _ pl hpl, ?_⟩
  unfold readCode at hc ⊢
  by_cases h : arePl n pl = true
  · simp [h] at hc ⊢
    refine ⟨_, l11Word_spec _ (by unfold Fits at *; omega) _ _ hw, ?_⟩
    simp [hc]
  · simp [h]
end Go.AM
