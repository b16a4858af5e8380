/-
  Ways through the configurations of a structure.
-/
import Derived.Test.YtimfhkglmiihgaaDoorFnX
import Derived.Test.YtimfhkglmiihgaaDoorFnOa
set_option linter.unusedVariables false
set_option linter.unusedSimpArgs false
set_option maxRecDepth 100000
namespace Go.AM
open Go.Proofs
def upS (a : Int) (e : Nat) : Int := ibits .or .i64 a (pow1 e)
def dnS (b : Int) (e : Nat) : Int := ibits .andNot .i64 b (pow1 e)
/-- `e` may have been the last of `b`. -/
def lastS (x : StrucV) (b : Int) (e : Nat) : Bool := (dnS b e != b) && (ibits .andNot .i64 (nth x.below e) (dnS b e) == 0)
/-- Masks of events of `c`. -/
def inC (x : StrucV) (c a : Int) : Prop := isM x.labels.length a = true ∧ ∀ i : Nat, tb a i = true → tb c i = true
theorem tb_up {a : Int} (ha : M a) {e : Nat} (he : e < 63) (i : Nat) : tb (upS a e) i = (tb a i || decide (e = i)) := by
  unfold upS; rw [tb_or ha (M_pow1 (by omega)), tb_pow1 he]
theorem tb_dn {b : Int} (hb : M b) {e : Nat} (he : e < 63) (i : Nat) : tb (dnS b e) i = (tb b i && !decide (e = i)) := by
  unfold dnS; rw [tb_andNot hb (M_pow1 (by omega)), tb_pow1 he]
theorem up_M {a : Int} (ha : M a) {e : Nat} (he : e < 63) : M (upS a e) := M_or ha (M_pow1 (by omega))
theorem dn_M {b : Int} (hb : M b) {e : Nat} (he : e < 63) : M (dnS b e) := M_andNot hb (M_pow1 (by omega))
theorem dn_ne {b : Int} (hb : M b) {e : Nat} (he : e < 63) : (dnS b e != b) = tb b e := by
  rw [Bool.eq_iff_iff, bne_iff_ne]
  constructor
  · intro h
    cases ht : tb b e
    · exfalso
      apply h
      apply tb_ext (dn_M hb he) hb
      intro i _
      rw [tb_dn hb he]
      by_cases ei : e = i
      · subst ei; simp [ht]
      · simp [ei]
    · rfl
  · intro h e2
    have := tb_dn hb he e
    rw [e2, h] at this
    simp at this
def stepsOf (x : StrucV) (c : Int) (hn : x.labels.length ≤ 16) : Steps where
  n := x.labels.length
  st := canS x c
  up := upS
  sb := lastS x
  dn := dnS
  D := inC x c
  Dup := fun a e he ha h => by
    obtain ⟨hM, hb⟩ := isM_spec (by omega) ha.1
    unfold canS at h
    simp only [Bool.and_eq_true] at h
    refine ⟨isM_of (by omega) (up_M hM (by omega)) fun i hi => ?_, fun i hi => ?_⟩
    · rw [tb_up hM (by omega), hb i hi]; simp; omega
    · rw [tb_up hM (by omega)] at hi
      simp only [Bool.or_eq_true, decide_eq_true_eq] at hi
      rcases hi with hi | rfl
      · exact ha.2 i hi
      · exact h.1.1
  Ddn := fun b e he hb h => by
    obtain ⟨hM, hbb⟩ := isM_spec (by omega) hb.1
    refine ⟨isM_of (by omega) (dn_M hM (by omega)) fun i hi => ?_, fun i hi => ?_⟩
    · rw [tb_dn hM (by omega), hbb i hi]; simp
    · rw [tb_dn hM (by omega)] at hi
      simp only [Bool.and_eq_true] at hi
      exact hb.2 i hi.1
  iff := fun a b e he ha hb => by
    obtain ⟨hMa, hba⟩ := isM_spec (by omega) ha.1
    obtain ⟨hMb, hbb⟩ := isM_spec (by omega) hb.1
    have he63 : e < 63 := by omega
    unfold lastS canS
    rw [dn_ne hMb he63]
    simp only [Bool.and_eq_true, beq_iff_eq, Bool.not_eq_true']
    constructor
    · rintro ⟨⟨⟨h1, h2⟩, h3⟩, rfl⟩
      have ed : dnS (upS a e) e = a := by
        apply tb_ext (dn_M (up_M hMa he63) he63) hMa
        intro i _
        rw [tb_dn (up_M hMa he63) he63, tb_up hMa he63]
        by_cases ei : e = i
        · subst ei; simp [h2]
        · simp [ei]
      refine ⟨⟨?_, by rw [ed]; exact h3⟩, ed.symm⟩
      rw [tb_up hMa he63]; simp
    · rintro ⟨⟨h1, h2⟩, rfl⟩
      refine ⟨⟨⟨hb.2 e h1, ?_⟩, h2⟩, ?_⟩
      · rw [tb_dn hMb he63]; simp
      · apply tb_ext (up_M (dn_M hMb he63) he63) hMb
        intro i _
        rw [tb_up (dn_M hMb he63) he63, tb_dn hMb he63]
        by_cases ei : e = i
        · subst ei; simp [h1]
        · simp [ei]
/-- The orders of the events of `c`: from the front, from the back. -/
theorem orders_eq (x : StrucV) (c : Int) (hn : x.labels.length ≤ 16) (hc : isM x.labels.length c = true) (k : Nat) : pf (stepsOf x c hn) k 0 c = pb (stepsOf x c hn) k 0 c :=
  pf_pb _ k 0 c ⟨isM_of (by omega) M_zero (fun i _ => by simp), fun i hi => by simp at hi⟩ ⟨hc, fun i hi => hi⟩
end Go.AM
