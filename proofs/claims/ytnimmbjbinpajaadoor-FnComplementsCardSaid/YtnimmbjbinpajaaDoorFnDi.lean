/-
  Draws of the laws: dice, comparing lists.
-/
import Derived.Test.YtnimmbjbinpajaaDoorFnDr
set_option linter.unusedVariables false
set_option linter.unusedSimpArgs false
set_option linter.unusedSectionVars false
set_option maxRecDepth 100000
set_option maxHeartbeats 1600000
namespace Go.AM
open Go.Proofs
theorem likeInts_same (a b : Bool) (l : List Int) (hl : l.length < 1000000) : ACalls1 Tryd.prog 90 [.sl 1 a (ints l), .sl 1 b (ints l)] (bv true) := by
  refine walk (fun _ => false) mixed Go.Proofs.Tryd.func90 rfl rfl rfl (by kernel_rfl) rfl (by simp) (by kernel_rfl) ?_
  simp
  refine awp_loop2 [0, 1] [] (fun k : Nat => [(5, iv k)]) (fun _ => []) (fun k => k ≤ l.length) (fun k => l.length - k) 0 (weak_mk some (by simp) (by simp) rfl) (by simp) ?_
  intro k hk
  by_cases hlt : k < l.length
  · simp [hlt]
    rw [wrap_id ((k : Int) + 1) (by omega) (by omega)]
    exact Round.mk (k + 1) (weak_mk some (by simp) (by simp) rfl) hlt (by omega)
  · obtain rfl : k = l.length := by omega
    simp
theorem below_spec (nn : Bool) (l : List Int) (s : Src) (hs : SrcOk l s) (n : Int) (hn : I64 n) :
    ACalls2 Tryd.prog 86 [srcA nn l s, iv n] [srcA nn l (nxS l s n), iv n] (iv (nxN l s n)) := by
  obtain ⟨x, hx, hx2⟩ := nxX_rng s
  obtain ⟨⟨hl, hb⟩, hp, h0, h1⟩ := hs
  have hw : IntKind.i64.wrap (x : Int) = x := wrap_id _ (by omega) (by omega)
  have hX : ibits BinOp.and IntKind.u64 (s.step.fdiv 8589934592) 16777215 = x := hx
  have hH : IntKind.u64.wrap (IntKind.u64.wrap (s.h * 6364136223846793005) + 1442695040888963407) = s.step := rfl
  unfold nxS nxN
  rw [hx]
  generalize s.step = H at *
  by_cases hn1 : n < 1
  · rw [if_pos hn1, if_pos hn1]
    refine walkO (fun _ => false) mixed Go.Proofs.Tryd.func86 rfl rfl rfl (by kernel_rfl) (by simp) (by simp) (by simp) (by kernel_rfl) ?_
    simp [hn1]
  · rw [if_neg hn1, if_neg hn1]
    by_cases hlt : s.p < l.length
    · have hc := hb _ (List.getElem_mem hlt)
      rw [← nth_at hlt] at hc
      have hw2 : IntKind.i64.wrap (nth l s.p) = nth l s.p := wrap_id _ (by omega) (by omega)
      have hw3 : IntKind.i64.wrap ((x : Int) + nth l s.p) = x + nth l s.p := wrap_id _ (by omega) (by omega)
      have hw4 : IntKind.i64.wrap ((s.p : Int) + 1) = s.p + 1 := wrap_id _ (by omega) (by omega)
      rw [if_pos hlt, if_pos hlt]
      refine walkO (fun _ => false) mixed Go.Proofs.Tryd.func86 rfl rfl rfl (by kernel_rfl) (by simp) (by simp) (by simp) (by kernel_rfl) ?_
      simp [hn1, hlt, hH, hX, hw, hw2, hw3, hw4]
      omega
    · rw [if_neg hlt, if_neg hlt]
      refine walkO (fun _ => false) mixed Go.Proofs.Tryd.func86 rfl rfl rfl (by kernel_rfl) (by simp) (by simp) (by simp) (by kernel_rfl) ?_
      simp [hn1, hlt, hH, hX, hw]
      omega
def rsh (seed : Int) (l : List Int) : Nat → Int
  | 0 => IntKind.u64.wrap (IntKind.u64.wrap (seed * 7681) + IntKind.u64.wrap l.length)
  | k + 1 => IntKind.u64.wrap (IntKind.u64.wrap (IntKind.u64.wrap (rsh seed l k * 1099511628211) + IntKind.u64.wrap (nth l k)) + 5)
theorem rsh_rng (seed : Int) (l : List Int) (k : Nat) : 0 ≤ rsh seed l k ∧ rsh seed l k < 18446744073709551616 := by
  cases k with
  | zero => unfold rsh; rw [wrap_u64']; omega
  | succ k => unfold rsh; rw [wrap_u64']; omega
def roll0 (seed : Int) (l : List Int) : Src := ⟨0, rsh seed l l.length⟩
theorem roll0_ok {seed : Int} {l : List Int} (hl : BysOk l) : SrcOk l (roll0 seed l) := ⟨hl, Nat.zero_le _, (rsh_rng seed l _).1, (rsh_rng seed l _).2⟩
theorem roll_spec (nn : Bool) (l : List Int) (hl : BysOk l) (seed : Int) (hs : 0 ≤ seed) (hs2 : seed < 18446744073709551616) : ACalls1 Tryd.prog 28 [.sl 1 nn (bys l), .val (.int .u64 seed)] (srcA nn l (roll0 seed l)) := by
  refine walk (fun _ => false) mixed Go.Proofs.Tryd.func28 rfl rfl rfl (by kernel_rfl) rfl (by simp) (by kernel_rfl) ?_
  simp
  refine awp_loop2 [0, 5] [] (fun k : Nat => [(6, iv k)]) (fun k => [(15, .box [.sl 1 nn (bys l), iv 0, .val (.int .u64 (rsh seed l k))])]) (fun k => k ≤ l.length) (fun k => l.length - k) 0 (weak_mk some (by simp) (by simp [rsh]) rfl) (by simp) ?_
  intro k hk
  have hlen := hl.1
  by_cases hlt : k < l.length
  · simp [hlt]
    first | refine ⟨⟨by kernel_rfl, by kernel_rfl⟩, ?_⟩ | exact ⟨by kernel_rfl, by kernel_rfl⟩
    rw [wrap_id _ (by omega) (by omega)]
    exact Round.mk (k + 1) (weak_mk some (by simp) (by simp [rsh]) rfl) hlt (by omega)
  · obtain rfl : k = l.length := by omega
    simp [roll0]
    try exact .inl (.refl _)
end Go.AM
