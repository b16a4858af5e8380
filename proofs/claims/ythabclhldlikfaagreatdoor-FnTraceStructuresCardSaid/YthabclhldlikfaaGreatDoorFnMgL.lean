/-
  Several texts in one: FnCf FnWd FnPs.
-/
import Derived.Test.YthabclhldlikfaaGreatDoorFnMgA
import Derived.Test.YthabclhldlikfaaGreatDoorAmList
import Derived.Test.YthabclhldlikfaaGreatDoorFnGe
import Derived.Test.YthabclhldlikfaaGreatDoorFnN
set_option linter.unusedVariables false
set_option linter.unusedSimpArgs false
set_option linter.unusedSectionVars false
set_option maxRecDepth 100000
set_option maxHeartbeats 1600000
namespace Go.AM
open Go.Proofs
theorem nthR_in {rs : List (List Int)} {k : Nat} (h : k < rs.length) : nthR rs k ∈ rs := by rw [nthR_at h]; exact List.getElem_mem h
theorem IndexFuncR_spec (nn b : Bool) (rs : List (List Int)) (hl : rs.length < 1099511627776) (g : FuncId) (caps : List AV) (p : List Int → Bool) (hg : ∀ r, r ∈ rs → ACalls1 Tryz.prog g (.sl 1 b (ints r) :: caps) (bv (p r))) (hc : immL [.fn g caps] = true) :
    ACalls1 Tryz.prog 153 [.sl 1 nn (srows b rs), .fn g caps] (iv (if rs.any p then ((rs.findIdx p : Nat) : Int) else -1)) := by
  generalize hv : (if rs.any p then ((rs.findIdx p : Nat) : Int) else -1) = v
  refine walk (fun _ => false) mixed Go.Proofs.Tryz.func153 rfl rfl rfl (by kernel_rfl) rfl (by simp) (by kernel_rfl) ?_
  simp
  refine awp_loop2 [0, 1, 7] [] (fun k : Nat => [(8, iv k)]) (fun _ => []) (fun k => k ≤ rs.length ∧ ∀ j, j < k → p (nthR rs j) = false) (fun k => rs.length - k) 0 (weak_mk some (by simp) (by simp) rfl) (by simp) ?_
  rintro k ⟨hk, hall⟩
  by_cases hlt : k < rs.length
  · simp [hlt]
    refine ⟨_, hg _ (nthR_in hlt), ?_⟩
    cases hp : p (nthR rs k)
    · simp [wrap_id ((k : Int) + 1) (by omega) (by omega)]
      refine Round.mk (k + 1) (weak_mk some (by simp) (by simp) rfl) ⟨hlt, fun j hj => ?_⟩ (by omega)
      by_cases e : j = k
      · subst e; exact hp
      · exact hall j (by omega)
    · have h1 : rs.any p = true := List.any_eq_true.2 ⟨_, nthR_in hlt, hp⟩
      have h2 : rs.findIdx p = k := by
        rw [List.findIdx_eq hlt]
        exact ⟨by rw [nthR_at hlt] at hp; exact hp, fun j hj => by have := hall j hj; rwa [nthR_at (by omega)] at this⟩
      rw [if_pos h1, h2] at hv
      subst hv
      simp
  · obtain rfl : k = rs.length := by omega
    have h1 : rs.any p = false := by
      rw [List.any_eq_false]
      intro r hr
      obtain ⟨j, hj, rfl⟩ := List.mem_iff_getElem.1 hr
      have := hall j hj
      rw [nthR_at hj] at this
      simp [this]
    rw [h1, if_neg (by simp)] at hv
    subst hv
    simp
theorem ContainsFuncR_spec (nn b : Bool) (rs : List (List Int)) (hl : rs.length < 1099511627776) (g : FuncId) (caps : List AV) (p : List Int → Bool) (hg : ∀ r, r ∈ rs → ACalls1 Tryz.prog g (.sl 1 b (ints r) :: caps) (bv (p r))) (hc : immL [.fn g caps] = true) :
    ACalls1 Tryz.prog 71 [.sl 1 nn (srows b rs), .fn g caps] (bv (rs.any p)) := by
  refine walk (fun _ => false) mixed Go.Proofs.Tryz.func71 rfl rfl rfl (by kernel_rfl) rfl (by simp) (by kernel_rfl) ?_
  simp
  refine ⟨_, IndexFuncR_spec nn b rs hl g caps p hg hc, ?_⟩
  cases rs.any p
  · simp
  · simp
theorem isWord_spec (a b : Bool) (x : AlphaV) (hx : x.letters = x.depends.length) (h8 : x.depends.length ≤ 8) (w : List Int) (hw : Fits w) : ACalls1 Tryz.prog 144 [alphaSl a x, .sl 1 b (ints w)] (bv (overW x.depends.length w)) := by
  have hw' := hw
  unfold Fits at hw
  refine walk (fun _ => false) mixed Go.Proofs.Tryz.func144 rfl rfl rfl (by kernel_rfl) rfl (by simp) (by kernel_rfl) ?_
  have hw1 : IntKind.i64.wrap ((x.depends.length : Int) - 1) = (x.depends.length : Int) - 1 := wrap_id _ (by omega) (by omega)
  by_cases h24 : (w.length : Int) ≤ 24
  · have h24' : ¬ (24 : Int) < w.length := by omega
    simp [hx, h24, h24', hw1]
    repeat (rw [exE_eq]; simp [hx, h24, h24', hw1])
    refine ⟨_, allIn_spec b w _ _ hw', ?_⟩
    simp [overW, h24]
  · have : overW x.depends.length w = false := by unfold overW; rw [decide_eq_false h24]; rfl
    rw [this]
    simp [hx, h24]
    repeat (rw [exE_eq]; simp [hx, h24])
theorem checkWords1_spec (a b : Bool) (x : AlphaV) (hx : x.letters = x.depends.length) (h8 : x.depends.length ≤ 8) (w : List Int) (hw : Fits w) : ACalls1 Tryz.prog 175 [.sl 1 b (ints w), .ip [iv x.letters, .sl 1 a (ints x.depends)]] (bv (!overW x.depends.length w)) := by
  refine walk (fun _ => false) mixed Go.Proofs.Tryz.func175 rfl rfl rfl (by kernel_rfl) rfl (by simp) (by kernel_rfl) ?_
  simp
  refine ⟨_, isWord_spec a b x hx h8 w hw, ?_⟩
  simp
theorem checkWords_yes (a b c : Bool) (x : AlphaV) (hx : isAlphaV x = true) (rs : List (List Int)) (hl : rs.length < 1000) (hr : ∀ r ∈ rs, overW x.depends.length r = true) : ACalls1 Tryz.prog 114 [alphaSl a x, .sl 1 c (srows b rs)] (iv 0) := by
  have hok := alOk_of hx
  have h8 := hok.len
  have hlt := hok.let_
  refine walk (fun t => t == 2) mixed Go.Proofs.Tryz.func114 rfl rfl rfl (by kernel_rfl) rfl (by simp) (by kernel_rfl) ?_
  simp
  refine ⟨_, IsAlphabet_spec a x (by rw [hlt]; unfold I64; omega) (by unfold Fits; omega), ?_⟩
  simp [hx]
  refine ⟨_, ContainsFuncR_spec c b rs (by omega) 175 [.ip [iv x.letters, .sl 1 a (ints x.depends)]] (fun r => !overW x.depends.length r) (fun r hr' => checkWords1_spec a b x hlt h8 r (by have := overW_len (hr r hr'); unfold Fits; omega)) rfl, ?_⟩
  have : (rs.any fun r => !overW x.depends.length r) = false := by
    rw [List.any_eq_false]; intro r hr'; simp [hr r hr']
  rw [this]
  simp
theorem NormalForm_spec (a b : Bool) (x : AlphaV) (hx : isAlphaV x = true) (w : List Int) (hw : overW x.depends.length w = true) : ACalls1 Tryz.prog 94 [alphaSl a x, .sl 1 b (ints w)] (.tup [.own 1 true (ints (nats (nf x.depends (wn w)))), iv 0]) := by
  have hok := alOk_of hx
  obtain ⟨e, hu, h24⟩ := overW_wn hw
  have ht : TOk x.depends := ⟨by have := hok.len; omega, fun i hi => (alOk_M hok hi).1⟩
  refine walk (fun t => t == 4009) mixed Go.Proofs.Tryz.func94 rfl rfl rfl (by kernel_rfl) rfl (by simp) (by kernel_rfl) ?_
  simp
  refine ⟨_, checkWords_yes a b true x hx [w] (by simp) (by simp [hw]), ?_⟩
  simp
  refine ⟨_, ties_spec a x, ?_⟩
  rw [e]
  simp
  refine ⟨_, normal_spec a b x.depends ht (wn w) hu, ?_⟩
  simp [← e]
theorem normal9_spec (a b : Bool) (x : AlphaV) (hx : isAlphaV x = true) (w : List Int) (hw : overW x.depends.length w = true) : ACalls1 Tryz.prog 31 [alphaSl a x, .sl 1 b (ints w)] (.own 1 true (ints (nats (nf x.depends (wn w))))) := by
  refine walk (fun _ => false) mixed Go.Proofs.Tryz.func31 rfl rfl rfl (by kernel_rfl) rfl (by simp) (by kernel_rfl) ?_
  simp
  refine ⟨_, NormalForm_spec a b x hx w hw, ?_⟩
  simp
theorem positions_spec (a b : Bool) (x : AlphaV) (hx : isAlphaV x = true) (w : List Int) (hw : overW x.depends.length w = true) : ACalls1 Tryz.prog 146 [alphaSl a x, .sl 1 b (ints w)] (.tup [.own 1 true (ints (nats (nf x.depends (wn w)))), .own 1 false (ints (clo (edgR x.depends (nf x.depends (wn w)))))]) := by
  have hok := alOk_of hx
  obtain ⟨e, hu, h24⟩ := overW_wn hw
  have ht : TOk x.depends := ⟨by have := hok.len; omega, fun i hi => (alOk_M hok hi).1⟩
  have hpm := nf_perm ht (wn w).length rfl (fun a ha => hu.2 a ha)
  refine walk (fun _ => false) mixed Go.Proofs.Tryz.func146 rfl rfl rfl (by kernel_rfl) rfl (by simp) (by kernel_rfl) ?_
  simp
  refine ⟨_, ties_spec a x, ?_⟩
  rw [e]
  simp
  refine ⟨_, normal_spec a b x.depends ht (wn w) hu, ?_⟩
  simp
  refine ⟨_, ties_spec a x, ?_⟩
  simp
  refine ⟨_, orderOf_spec a true x.depends ht (nf x.depends (wn w)) (fun c hc => hu.2 c (hpm.mem_iff.1 hc)) (by rw [hpm.length_eq]; exact h24), ?_⟩
  simp [← e]
end Go.AM
