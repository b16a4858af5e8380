/-
  Draws: any nets, words of nets.
-/
import Derived.Test.YtnimmbjbinpajaaDoorFnDn
set_option linter.unusedVariables false
set_option linter.unusedSimpArgs false
set_option maxRecDepth 100000
set_option maxHeartbeats 1600000
namespace Go.AM
open Go.Proofs
/-- A net as it is drawn, perhaps damaged. -/
def NetAny (x : NetV) : Prop := -1 ≤ x.p ∧ x.p ≤ 9 ∧ I64 x.s ∧ x.pre.length ≤ 9 ∧ x.post.length ≤ 9 ∧ (∀ y ∈ x.pre, I64 y) ∧ ∀ y ∈ x.post, I64 y
theorem i64_snoc {l : List Int} {a : Int} (h : ∀ y ∈ l, I64 y) (ha : I64 a) : ∀ y ∈ l ++ [a], I64 y := fun y hy => by
  rcases List.mem_append.1 hy with hy | hy
  · exact h y hy
  · simp at hy; rw [hy]; exact ha
theorem l17DrawAny_spec (nn : Bool) (l : List Int) (s : Src) (hs : SrcOk l s) : ACalls Tryd.prog 140 [srcA nn l s] (fun xs r => ∃ s' x, SrcOk l s' ∧ NetAny x ∧ xs = [srcA nn l s'] ∧ r = netOw false false x) := by
  refine walkR (fun t => t == 7005 || t == 2007 || t == 2011 || t == 2037 || t == 1034) mixed Go.Proofs.Tryd.func140 rfl rfl rfl (by kernel_rfl) (by simp) (by simp) (by simp) (by kernel_rfl) ?_
  simp
  refine ⟨_, l17Draw_spec nn l s hs, ?_⟩
  rintro _ _ ⟨s1, x, hs1, ⟨x1, x2, x3, x4, x5, x6, x7⟩, rfl, rfl⟩
  simp
  refine ⟨_, _, l01Next_spec nn l s1 hs1 30 (by unfold I64; omega), ?_⟩
  have hs2 := nxS_ok hs1 30
  generalize nxS l s1 30 = s2 at *
  generalize nxN l s1 30 = r at *
  have fin : ∀ (q : Src) (P S : Int) (A B : List Int), SrcOk l q → -1 ≤ P → P ≤ 9 → I64 S → A.length ≤ 9 → B.length ≤ 9 → (∀ y ∈ A, I64 y) → (∀ y ∈ B, I64 y) →
      ∃ r, Le (AV.agg [iv P, AV.own 1 false (ints A), AV.own 1 false (ints B), iv S]) r ∧ ∃ s', SrcOk l s' ∧ ∃ x, NetAny x ∧ (q.p = s'.p ∧ q.h = s'.h) ∧ r = netOw false false x :=
    fun q P S A B h1 h2 h3 h4 h5 h6 h7 h8 => ⟨_, .refl _, q, h1, ⟨P, A, B, S⟩, ⟨h2, h3, h4, h5, h6, h7, h8⟩, ⟨rfl, rfl⟩, rfl⟩
  have hw : IntKind.i64.wrap (x.p - 1) = x.p - 1 := wrap_id _ (by omega) (by omega)
  simp [hw]
  refine ⟨fun h0 => ?_, fun h0 => ⟨fun h1 => ?_, fun h1 => ⟨fun h2 => ?_, fun h2 => ⟨fun h3 => ?_, fun h3 => ?_⟩⟩⟩⟩
  · refine ⟨_, _, l01Next_spec nn l s2 hs2 200 (by unfold I64; omega), ?_⟩
    have hs3 := nxS_ok hs2 200
    have ha := nxN_rng hs2 200
    generalize nxS l s2 200 = s3 at *
    generalize nxN l s2 200 = a at *
    simp
    rw [wrap_id _ (by omega) (by omega)]
    exact fin s3 x.p _ _ _ hs3 (by omega) (by omega) (by unfold I64; omega) (by omega) (by omega) x6 x7
  · exact fin s2 _ _ _ _ hs2 (by omega) (by omega) x3 (by omega) (by omega) x6 x7
  · refine ⟨by omega, by omega, ?_⟩
    exact fin s2 _ _ _ _ hs2 (by omega) (by omega) x3 (by omega) (by simp; omega) x6 (i64_snoc x7 (by unfold I64; omega))
  · refine ⟨by omega, by omega, ?_⟩
    refine ⟨_, _, l01Next_spec nn l s2 hs2 2 (by unfold I64; omega), ?_⟩
    have hs3 := nxS_ok hs2 2
    have ha := nxN_rng hs2 2
    generalize nxS l s2 2 = s3 at *
    generalize nxN l s2 2 = a at *
    simp
    refine ⟨by omega, by omega, ?_⟩
    first | refine ⟨⟨by kernel_rfl, by kernel_rfl⟩, ?_⟩ | exact ⟨by kernel_rfl, by kernel_rfl⟩
    exact fin s3 _ _ _ _ hs3 (by omega) (by omega) x3 (by simp; omega) (by simp; omega) (i64_snoc x6 (by unfold I64; omega)) (i64_snoc x7 (by unfold I64; omega))
  · exact fin s2 _ _ _ _ hs2 (by omega) (by omega) x3 (by omega) (by omega) x6 x7
end Go.AM
