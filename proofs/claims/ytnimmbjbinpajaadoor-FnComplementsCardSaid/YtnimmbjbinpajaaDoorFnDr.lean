/-
  Draws: the source of numbers; what is drawn does not matter, only its range.
-/
import Derived.Test.YtnimmbjbinpajaaDoorFnMgA
set_option linter.unusedVariables false
set_option linter.unusedSimpArgs false
set_option maxRecDepth 100000
set_option maxHeartbeats 1600000
namespace Go.AM
open Go.Proofs
/-- Bytes. -/
def bys (l : List Int) : List AV := l.map fun n => .val (.int .u8 n)
@[simp] theorem bys_length (l : List Int) : (bys l).length = l.length := by simp [bys]
@[simp] theorem bys_nrf (l : List Int) : nrfL (bys l) = true := by
  induction l with
  | nil => rfl
  | cons a l ih => simp [bys, nrfL, nrf] at ih ⊢; exact ih
@[simp] theorem bys_view (l : List Int) : viewL (bys l) = bys l := by
  induction l with
  | nil => rfl
  | cons a l ih => simp [bys, viewL, view] at ih ⊢; exact ih
@[simp ↓ high] theorem bys_cpy (l : List Int) : (bys l).all cpy = true := by simp [bys, cpy]
@[simp ↓ high] theorem bys_one (l : List Int) : (bys l).all one = true := by simp [bys, one]
theorem bys_window (l : List Int) (n : Nat) (h : n < l.length) : ((bys l).drop n).take 1 = [.val (.int .u8 (nth l n))] := by
  rw [bys, ← List.map_drop, ← List.map_take, nth_at h, List.drop_eq_getElem_cons h]; rfl
theorem idx_bys {P : Program} {st : St} {t : TypeId} {nn : Bool} {l : List Int} {c : IntKind} {i : Int} {k : Eff → Prop} (h : oneB P t = true) :
    indexAddrOp P st t (.sl 1 nn (bys l)) (.val (.int c i)) k = (0 ≤ i ∧ i.toNat < l.length ∧ k { val := .ip [.val (.int .u8 (nth l i.toNat))] }) := by
  unfold oneB at h
  split at h
  · rename_i e he
    simp only [Bool.and_eq_true, beq_iff_eq] at h
    unfold indexAddrOp
    simp only [he, slOf2, slOf, h.1, h.2, true_and, Nat.mul_one, bys_length, Nat.lt_add_one]
    refine propext ⟨?_, ?_⟩
    · rintro ⟨h0, h1, h2⟩
      refine ⟨h0, by omega, ?_⟩
      rw [bys_window l _ (by omega)] at h2; exact h2
    · rintro ⟨h0, h1, h2⟩
      refine ⟨h0, by omega, ?_⟩
      rw [bys_window l _ (by omega)]; exact h2
  · cases h
attribute [simp high] idx_bys
def BysOk (l : List Int) : Prop := l.length < 1099511627776 ∧ ∀ x ∈ l, 0 ≤ x ∧ x ≤ 255
theorem and24 (a : Int) (h0 : 0 ≤ a) (h1 : a < 18446744073709551616) : ∃ x : Nat, ibits BinOp.and IntKind.u64 a 16777215 = (x : Int) ∧ x ≤ 16777215 := by
  obtain ⟨n, rfl⟩ := Int.eq_ofNat_of_zero_le h0
  refine ⟨n &&& 16777215, ibu_and n 16777215 (by omega) (by omega), Nat.and_le_right⟩
theorem tmod_rng {x n : Int} (h0 : 0 ≤ x) (hn : ¬ n < 1) : 0 ≤ x.tmod n ∧ x.tmod n < n := by
  rw [Int.tmod_eq_emod_of_nonneg h0]
  exact ⟨Int.emod_nonneg _ (by omega), Int.emod_lt_of_pos _ (by omega)⟩
/-- The next number of a source, and the source behind it. -/
structure Src where
  p : Nat
  h : Int
def Src.step (s : Src) : Int := IntKind.u64.wrap (IntKind.u64.wrap (s.h * 6364136223846793005) + 1442695040888963407)
def nxX (s : Src) : Int := ibits BinOp.and IntKind.u64 (s.step.fdiv 8589934592) 16777215
def nxS (l : List Int) (s : Src) (n : Int) : Src := if n < 1 then s else if s.p < l.length then ⟨s.p + 1, s.step⟩ else ⟨s.p, s.step⟩
def nxN (l : List Int) (s : Src) (n : Int) : Int := if n < 1 then 0 else if s.p < l.length then (nxX s + nth l s.p).tmod n else (nxX s).tmod n
@[reducible] def srcA (nn : Bool) (l : List Int) (s : Src) : AV := .box [.sl 1 nn (bys l), iv s.p, .val (.int .u64 s.h)]
def SrcOk (l : List Int) (s : Src) : Prop := BysOk l ∧ s.p ≤ l.length ∧ 0 ≤ s.h ∧ s.h < 18446744073709551616
theorem step_rng (s : Src) : 0 ≤ s.step ∧ s.step < 18446744073709551616 := by unfold Src.step; rw [wrap_u64']; omega
theorem nxX_rng (s : Src) : ∃ x : Nat, nxX s = (x : Int) ∧ x ≤ 16777215 := by
  have := step_rng s
  refine and24 _ ?_ ?_
  · rw [Int.fdiv_eq_ediv_of_nonneg _ (by omega)]; omega
  · rw [Int.fdiv_eq_ediv_of_nonneg _ (by omega)]; omega
theorem nxS_ok {l : List Int} {s : Src} (h : SrcOk l s) (n : Int) : SrcOk l (nxS l s n) := by
  have := step_rng s
  unfold nxS
  split
  · exact h
  · split
    · rename_i h2; exact ⟨h.1, h2, this.1, this.2⟩
    · exact ⟨h.1, h.2.1, this.1, this.2⟩
theorem nxN_rng {l : List Int} {s : Src} (h : SrcOk l s) (n : Int) : 0 ≤ nxN l s n ∧ (nxN l s n < n ∨ nxN l s n = 0) := by
  obtain ⟨x, hx, hx2⟩ := nxX_rng s
  unfold nxN
  rw [hx]
  split
  · exact ⟨by omega, .inr rfl⟩
  · rename_i hn
    split
    · rename_i h2
      have := h.1.2 _ (List.getElem_mem h2)
      rw [← nth_at h2] at this
      have := tmod_rng (x := (x : Int) + nth l s.p) (by omega) hn
      exact ⟨this.1, .inl this.2⟩
    · have := tmod_rng (x := (x : Int)) (by omega) hn
      exact ⟨this.1, .inl this.2⟩
theorem l01Next_spec (nn : Bool) (l : List Int) (s : Src) (hs : SrcOk l s) (n : Int) (hn : I64 n) :
    ACalls2 Tryd.prog 165 [srcA nn l s, iv n] [srcA nn l (nxS l s n), iv n] (iv (nxN l s n)) := by
  obtain ⟨x, hx, hx2⟩ := nxX_rng s
  obtain ⟨⟨hl, hb⟩, hp, h0, h1⟩ := hs
  have hw : IntKind.i64.wrap (x : Int) = x := wrap_id _ (by omega) (by omega)
  have hX : ibits BinOp.and IntKind.u64 (s.step.fdiv 8589934592) 16777215 = x := hx
  have hH : IntKind.u64.wrap (IntKind.u64.wrap (s.h * 6364136223846793005) + 1442695040888963407) = s.step := rfl
  unfold nxS nxN
  rw [hx]
  generalize s.step = H at *
  by_cases hn1 : n < 1
  · rw [if_pos hn1, if_pos hn1]
    refine walkO (fun _ => false) mixed Go.Proofs.Tryd.func165 rfl rfl rfl (by kernel_rfl) (by simp) (by simp) (by simp) (by kernel_rfl) ?_
    simp [hn1]
  · rw [if_neg hn1, if_neg hn1]
    by_cases hlt : s.p < l.length
    · have hc := hb _ (List.getElem_mem hlt)
      rw [← nth_at hlt] at hc
      have hw2 : IntKind.i64.wrap (nth l s.p) = nth l s.p := wrap_id _ (by omega) (by omega)
      have hw3 : IntKind.i64.wrap ((x : Int) + nth l s.p) = x + nth l s.p := wrap_id _ (by omega) (by omega)
      have hw4 : IntKind.i64.wrap ((s.p : Int) + 1) = s.p + 1 := wrap_id _ (by omega) (by omega)
      rw [if_pos hlt, if_pos hlt]
      refine walkO (fun _ => false) mixed Go.Proofs.Tryd.func165 rfl rfl rfl (by kernel_rfl) (by simp) (by simp) (by simp) (by kernel_rfl) ?_
      simp [hn1, hlt, hH, hX, hw, hw2, hw3, hw4]
      omega
    · rw [if_neg hlt, if_neg hlt]
      refine walkO (fun _ => false) mixed Go.Proofs.Tryd.func165 rfl rfl rfl (by kernel_rfl) (by simp) (by simp) (by simp) (by kernel_rfl) ?_
      simp [hn1, hlt, hH, hX, hw]
      omega
/-- The number of a source after the first bytes. -/
def hsh (l : List Int) : Nat → Int
  | 0 => IntKind.u64.wrap (9341 + IntKind.u64.wrap l.length)
  | k + 1 => IntKind.u64.wrap (IntKind.u64.wrap (IntKind.u64.wrap (hsh l k * 1099511628211) + IntKind.u64.wrap (nth l k)) + 11)
theorem hsh_rng (l : List Int) (k : Nat) : 0 ≤ hsh l k ∧ hsh l k < 18446744073709551616 := by
  cases k with
  | zero => unfold hsh; rw [wrap_u64']; omega
  | succ k => unfold hsh; rw [wrap_u64']; omega
def src0 (l : List Int) : Src := ⟨0, hsh l (min l.length 4096)⟩
theorem src0_ok {l : List Int} (hl : BysOk l) : SrcOk l (src0 l) := ⟨hl, Nat.zero_le _, (hsh_rng l _).1, (hsh_rng l _).2⟩
theorem l01From_spec (nn : Bool) (l : List Int) (hl : BysOk l) : ACalls1 Tryd.prog 141 [.sl 1 nn (bys l)] (srcA nn l (src0 l)) := by
  refine walk (fun _ => false) mixed Go.Proofs.Tryd.func141 rfl rfl rfl (by kernel_rfl) rfl (by simp) (by kernel_rfl) ?_
  simp
  refine awp_loop2 [0, 3] [] (fun k : Nat => [(4, iv k)]) (fun k => [(11, .box [.sl 1 nn (bys l), iv 0, .val (.int .u64 (hsh l k))])]) (fun k => k ≤ l.length ∧ k ≤ 4096) (fun k => l.length - k) 0 (weak_mk some (by simp) (by simp [hsh]) rfl) (by simp) ?_
  rintro k ⟨hk, hk2⟩
  have hlen := hl.1
  by_cases hlt : k < l.length
  · by_cases hlt2 : k < 4096
    · simp [hlt, hlt2, show (k : Int) < 4096 by omega]
      first | refine ⟨⟨by kernel_rfl, by kernel_rfl⟩, ?_⟩ | exact ⟨by kernel_rfl, by kernel_rfl⟩
      rw [wrap_id _ (by omega) (by omega)]
      exact Round.mk (k + 1) (weak_mk some (by simp) (by simp [hsh]) rfl) ⟨hlt, hlt2⟩ (by omega)
    · obtain rfl : k = 4096 := by omega
      simp [hlt, src0, show min l.length 4096 = 4096 by omega]
      exact ⟨fun _ => .inl (.refl _), fun _ => .inl (.refl _)⟩
  · obtain rfl : k = l.length := by omega
    simp [src0, show min l.length 4096 = l.length by omega]
    exact .inl (.refl _)
end Go.AM
