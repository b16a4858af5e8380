/-
  The laws over a code: what is known of it, whether it is large.
-/
import Derived.Test.YtnimmbjbinpajaaDoorFnDr
set_option linter.unusedVariables false
set_option linter.unusedSimpArgs false
set_option maxRecDepth 100000
namespace Go.AM
open Go.Proofs
theorem u8_of_wf {n : Int} (h : (Lit.int .u8 n).wf = true) : 0 ≤ n ∧ n ≤ 255 := by
  simp only [Lit.wf, Bool.and_eq_true, decide_eq_true_eq] at h
  exact h
def CodeIn (l : List Int) : Prop := l.length ≤ maxLen ∧ ∀ x ∈ l, (Lit.int .u8 x).wf = true
theorem big_spec (nn : Bool) (l : List Int) : ACalls1 Tryd.prog 21 [.sl 1 nn (bys l)] (bv (decide (4096 < l.length))) := by
  refine walk (fun _ => false) mixed Go.Proofs.Tryd.func21 rfl rfl rfl (by kernel_rfl) rfl (by simp) (by kernel_rfl) ?_
  simp
  omega
theorem bysOk_of {l : List Int} (h : CodeIn l) (h2 : ¬ 4096 < l.length) : BysOk l := ⟨by omega, fun x hx => u8_of_wf (h.2 x hx)⟩
@[simp] theorem backL_sl (sz : Nat) (b : Bool) (l ys : List AV) : backL [AV.sl sz b l] ys = [] := by
  cases ys with
  | nil => rfl
  | cons y ys => cases y <;> simp [backL, back2, back1]
theorem flat_bys (l : List Int) : (l.flatMap fun y => [AV.val (.int .u8 y)]) = bys l := by
  induction l with
  | nil => rfl
  | cons a l ih => simp only [List.flatMap_cons, ih]; rfl
end Go.AM
