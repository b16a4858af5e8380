/-
  FnComplements: the draw; words are fired alike.
-/
import Derived.Test.YtnimmbjbinpajaaDoorFnCp
import Derived.Test.YtnimmbjbinpajaaDoorFnNo
import Derived.Test.YtnimmbjbinpajaaDoorFnAt
import Derived.Test.YtnimmbjbinpajaaDoorFnDo
import Derived.Test.YtnimmbjbinpajaaDoorFnBig
set_option linter.unusedVariables false
set_option linter.unusedSimpArgs false
set_option maxRecDepth 100000
set_option maxHeartbeats 1600000
namespace Go.AM
open Go.Proofs
theorem DrawIsNet_spec (nn : Bool) (l : List Int) (hl : BysOk l) : ACalls Tryd.prog 69 [.sl 1 nn (bys l)] (fun xs r => ∃ x, NetAny x ∧ r = netOw false false x) := by
  refine walkR (fun t => t == 7005) mixed Go.Proofs.Tryd.func69 rfl rfl rfl (by kernel_rfl) (by simp) (by simp) (by simp) (by kernel_rfl) ?_
  simp
  refine ⟨_, l01From_spec nn l hl, ?_⟩
  have hs := src0_ok hl
  generalize src0 l = s at *
  simp
  refine ⟨_, l17DrawAny_spec nn l s hs, ?_⟩
  rintro _ _ ⟨s1, x, hs1, hx, rfl, rfl⟩
  simp
  exact ⟨_, .refl _, x, hx, rfl⟩
theorem DrawWithComplements_spec (nn : Bool) (l : List Int) (hl : BysOk l) : ACalls Tryd.prog 22 [.sl 1 nn (bys l)] (fun xs r => ∃ x, NetAny x ∧ r = netOw false false x) := by
  refine walkR (fun t => t == 7004) mixed Go.Proofs.Tryd.func22 rfl rfl rfl (by kernel_rfl) (by simp) (by simp) (by simp) (by kernel_rfl) ?_
  simp
  refine ⟨_, DrawIsNet_spec nn l hl, ?_⟩
  rintro _ _ ⟨x, hx, rfl⟩
  simp
  exact ⟨_, .refl _, x, hx, rfl⟩
section
variable {x out : NetV} {P : Nat} {l : List Nat} (h : CoAll x out P l)
include h
theorem run_bits : ∀ (w : List Int) (m r : Int), M m → (∀ i, P ≤ i → tb m i = false) → (∀ a ∈ w, a.toNat < x.pre.length) → runW x m w = some r → M r ∧ ∀ i, P ≤ i → tb r i = false
  | [], m, r, hm, hb, _, hr => by
    simp only [runW, Option.some.injEq] at hr
    subst hr; exact ⟨hm, hb⟩
  | a :: w, m, r, hm, hb, hw, hr => by
    simp only [runW] at hr
    split at hr
    · cases hr
    · obtain ⟨F1, F2⟩ := fire_bits h.co h.nx h.hP (by have := h.l12; omega) h.lP hm hb (hw a (by simp))
      exact run_bits w _ r F1 F2 (fun b hb => hw b (by simp [hb])) hr
theorem co_fire (w : List Int) (hwl : w.length ≤ 24) (hw : ∀ y ∈ w, 0 ≤ y ∧ y < x.pre.length) :
    (fireWordV out out.s w).2 = (fireWordV x x.s w).2 ∧ ((fireWordV x x.s w).2 = 0 → ibits .and .i64 (fireWordV out out.s w).1 (full x.p) = (fireWordV x x.s w).1) := by
  have h12 := h.l12
  have hmk : ∀ {y : NetV}, isNet y.p y.pre y.post y.s = true → markCode y y.s = 0 := fun {y} hy => by
    unfold markCode
    rw [if_pos hy, if_pos]
    unfold isNet at hy
    simp at hy ⊢; omega
  have how : overW x.pre.length w = true := by
    unfold overW
    simp only [Bool.and_eq_true, decide_eq_true_eq, List.all_eq_true]
    exact ⟨by omega, fun y hy => ⟨(hw y hy).1, by have := (hw y hy).2; omega⟩⟩
  have hn : ∀ a ∈ w, a.toNat < x.pre.length := fun a ha => by have := hw a ha; omega
  have hrun := co_run h.co h.nx h.hP (by omega) h.lP w x.s h.sM h.sb hn
  unfold fireWordV
  rw [hmk h.nx, hmk (co_net h), h.co.n1, how, co_start_s h.co h.nx h.hP (by omega) h.lP h.sb h.sM, hrun]
  simp only [if_true]
  cases hr : runW x x.s w with
  | none => simp
  | some r =>
    simp only [Option.map_some, true_and]
    intro _
    obtain ⟨hm, hb⟩ := run_bits h w _ _ h.sM h.sb hn hr
    have hM := lift_M h.co h.nx h.hP (by omega) h.lP hm
    have hF : M (full x.p) := by rw [h.hP]; exact M_full (by omega) 
    refine tb_ext (M_and hM hF) hm fun i _ => ?_
    rw [tb_and hM hF, lift_tb h.co h.nx h.hP (by omega) h.lP hm hb, h.hP, tb_full (by omega)]
    by_cases hi : i < P
    · simp [bitC, hi]
    · rw [hb i (by omega)]; simp [hi]
/-- What RunAutomaton gives. -/
theorem co_code : (runAutV x).2 = 0 ∧ (runAutV x).1.letters = x.pre.length ∧ (runAutV x).1.next.length ≤ 16 ∨ (runAutV x).2 = 3 := by
  unfold runAutV
  rw [if_pos h.nx, if_pos h.le]
  unfold autL
  split
  · rename_i hle
    left; exact ⟨rfl, rfl, hle⟩
  · right; rfl
theorem co_rows : ∀ r ∈ (runAutV x).1.next, r.length < 1000000 := by
  have hn := isNet_len h.nx
  obtain ⟨h1, h2, h3, h4⟩ := refM_ok h.nx h.le
  obtain ⟨c1, c2, c3⟩ := canM_ok h1 h3
  rw [show ((0 : Nat) : Int) = 0 from rfl, h4, show (refM x).letters = x.pre.length from rfl] at c1
  unfold runAutV
  rw [if_pos h.nx, if_pos h.le]
  unfold autL
  split
  · intro r hr
    obtain ⟨i, hi, e⟩ := List.mem_iff_getElem.1 hr
    have hl := c1.rl i hi
    rw [nthR_at hi, e, show (canM x.pre.length (sysLang (netS x) x.s)).letters = x.pre.length from rfl] at hl
    omega
  · intro r hr; cases hr
end
end Go.AM
