/-
  Contracts: invariants of nets.
-/
import Derived.Test.YtmpdpjpebekfkaaFnG
import Derived.Test.YtmpdpjpebekfkaaFnPop
set_option linter.unusedVariables false
set_option linter.unusedSimpArgs false
set_option maxRecDepth 100000
set_option maxHeartbeats 1600000
namespace Go.AM
open Go.Proofs
theorem and_comm' {x y : Int} (hx : M x) (hy : M y) : ibits .and .i64 x y = ibits .and .i64 y x :=
  tb_ext (M_and hx hy) (M_and hy hx) fun i _ => by rw [tb_and hx hy, tb_and hy hx, Bool.and_comm]
/-- A set has as many places before as behind each transition. -/
def keptAt (x : NetV) (set : Int) (a : Nat) : Bool := popc (ibits .and .i64 set (nth x.pre a)).toNat == popc (ibits .and .i64 set (nth x.post a)).toNat
def kept (x : NetV) (set : Int) : Bool := (List.range x.pre.length).all fun a => keptAt x set a
theorem kept_bad {x : NetV} {set : Int} {a : Nat} (ha : a < x.pre.length) (h : keptAt x set a = false) : kept x set = false :=
  List.all_eq_false.2 ⟨a, List.mem_range.2 ha, by simp [h]⟩
theorem isInvariant_spec (n1 n2 : Bool) (x : NetV) (set : Int) (hx : ∀ i ∈ x.pre ++ x.post, M i) (hs : M set) (hl : x.post.length = x.pre.length) (h8 : x.pre.length ≤ 8) : ACalls1 Try.prog 28 [netSl n1 n2 x, iv set] (bv (kept x set)) := by
  refine walk (fun t => t == 2) mixed Go.Proofs.Try.func28 rfl rfl rfl (by kernel_rfl) rfl (by simp) (by kernel_rfl) ?_
  simp
  refine awp_loop2 [1, 2, 8] [] (fun k : Nat => [(9, iv k)]) (fun _ => []) (fun k => k ≤ x.pre.length ∧ ∀ a < k, keptAt x set a = true) (fun k => x.pre.length - k) 0 (weak_mk some (by simp) (by simp) rfl) (by simp) ?_
  rintro k ⟨hk, hi⟩
  by_cases hlt : k < x.pre.length
  · have m1 := hx _ (List.mem_append_left _ (nth_mem hlt))
    have m2 := hx _ (List.mem_append_right _ (nth_mem (show k < x.post.length by omega)))
    simp [hlt, hl]
    refine ⟨_, size_spec _ (M_and m1 hs), ?_⟩
    simp [hlt, hl]
    refine ⟨_, size_spec _ (M_and m2 hs), ?_⟩
    rw [and_comm' m1 hs, and_comm' m2 hs]
    cases hb : keptAt x set k
    · have := hb
      simp only [keptAt, beq_eq_false_iff_ne, ne_eq] at this
      simp [this]
      exact kept_bad hlt hb
    · have := hb
      simp only [keptAt, beq_iff_eq] at this
      simp [this, wrap_id ((k : Int) + 1) (by omega) (by omega)]
      refine Round.mk (k + 1) (weak_mk some (by simp) (by simp) rfl) ⟨hlt, fun a ha => ?_⟩ (by omega)
      by_cases e : a = k
      · subst e; exact hb
      · exact hi a (by omega)
  · simp [hlt]
    exact List.all_eq_true.2 fun a ha => hi a (by have := List.mem_range.1 ha; omega)
theorem l17Kept_spec (n1 n2 : Bool) (x : NetV) (set : Int) (hx : ∀ i ∈ x.pre ++ x.post, M i) (hs : M set) (h0 : 0 < set) (hl : x.post.length = x.pre.length) (h8 : x.pre.length ≤ 8) : ACalls1 Try.prog 33 [netSl n1 n2 x, iv set] (bv (kept x set)) := by
  refine walk (fun t => t == 2) mixed Go.Proofs.Try.func33 rfl rfl rfl (by kernel_rfl) rfl (by simp) (by kernel_rfl) ?_
  simp
  refine awp_loop2 [1, 2] [] (fun k : Nat => [(5, iv k)]) (fun _ => []) (fun k => k ≤ x.pre.length ∧ ∀ a < k, keptAt x set a = true) (fun k => x.pre.length - k) 0 (weak_mk some (by simp) (by simp) rfl) (by simp) ?_
  rintro k ⟨hk, hi⟩
  by_cases hlt : k < x.pre.length
  · have m1 := hx _ (List.mem_append_left _ (nth_mem hlt))
    have m2 := hx _ (List.mem_append_right _ (nth_mem (show k < x.post.length by omega)))
    simp [hlt, hl]
    refine ⟨_, l01Bits_spec _ (M_and hs m1), ?_⟩
    simp [hlt, hl]
    refine ⟨_, l01Bits_spec _ (M_and hs m2), ?_⟩
    cases hb : keptAt x set k
    · have := hb
      simp only [keptAt, beq_eq_false_iff_ne, ne_eq] at this
      simp [this]
      exact kept_bad hlt hb
    · have := hb
      simp only [keptAt, beq_iff_eq] at this
      simp [this, wrap_id ((k : Int) + 1) (by omega) (by omega)]
      refine Round.mk (k + 1) (weak_mk some (by simp) (by simp) rfl) ⟨hlt, fun a ha => ?_⟩ (by omega)
      by_cases e : a = k
      · subst e; exact hb
      · exact hi a (by omega)
  · simp [hlt]
    rw [show kept x set = true from List.all_eq_true.2 fun a ha => hi a (by have := List.mem_range.1 ha; omega)]
    simp [h0]
/-- The invariants among the first sets. -/
def invUp (x : NetV) : Nat → List Int
  | 0 => []
  | k + 1 => if kept x (k + 1 : Nat) && !((invUp x k).any fun part => ibits .andNot .i64 part (k + 1 : Nat) == 0) then invUp x k ++ [((k + 1 : Nat) : Int)] else invUp x k
theorem invUp_length (x : NetV) : ∀ k, (invUp x k).length ≤ k
  | 0 => by simp [invUp]
  | k + 1 => by
    have := invUp_length x k
    rw [invUp]; split <;> simp <;> omega
theorem invUp_mem (x : NetV) : ∀ k, ∀ i ∈ invUp x k, 1 ≤ i ∧ i ≤ k
  | 0 => by simp [invUp]
  | k + 1 => by
    have ih := invUp_mem x k
    intro i hi
    rw [invUp] at hi
    split at hi
    · rcases List.mem_append.1 hi with h | h
      · have := ih i h; omega
      · simp at h; omega
    · have := ih i hi; omega
theorem inv1_spec (n set : Int) : ACalls1 Try.prog 30 [iv n, .ip [iv set]] (bv (ibits .andNot .i64 n set == 0)) := by
  refine walk (fun _ => false) mixed Go.Proofs.Try.func30 rfl rfl rfl (by kernel_rfl) rfl (by simp) (by kernel_rfl) ?_
  simp
/-- The invariants, and the code. -/
def invariantsOfV (x : NetV) : List Int × Int := if isNet x.p x.pre x.post x.s then (if (invUp x (2 ^ x.p.toNat - 1)).length ≤ 256 then (invUp x (2 ^ x.p.toNat - 1), 0) else ([], 3)) else ([], 1)
theorem p12 {p : Int} (h0 : 0 ≤ p) (h1 : p ≤ 12) : 2 ^ p.toNat ≤ 4096 ∧ pow1 p = ((2 ^ p.toNat : Nat) : Int) ∧ 0 < 2 ^ p.toNat ∧ full p = ((2 ^ p.toNat - 1 : Nat) : Int) := by
  obtain ⟨n, rfl⟩ := Int.eq_ofNat_of_zero_le h0
  refine ⟨?_, pow1_eq (by omega), Nat.two_pow_pos _, full_eq (by omega)⟩
  exact Nat.le_trans (Nat.pow_le_pow_right (by omega) (show n ≤ 12 by omega)) (by decide)
theorem InvariantsOf_spec (n1 n2 : Bool) (x : NetV) (hx : NetOk x) : ACalls1 Try.prog 7 [netSl n1 n2 x] (.tup [.own 1 false (ints (invariantsOfV x).1), iv (invariantsOfV x).2]) := by
  refine walk (fun t => t == 1) mixed Go.Proofs.Try.func7 rfl rfl rfl (by kernel_rfl) rfl (by simp) (by kernel_rfl) ?_
  simp
  refine ⟨_, IsNet_spec _ _ x.p x.pre x.post x.s, ?_⟩
  unfold invariantsOfV
  cases h : isNet x.p x.pre x.post x.s
  · simp
  · have hl := isNet_len h
    have hM := isNet_M h
    obtain ⟨q1, q2, q3, q4⟩ := p12 hl.2.2.1 hl.2.2.2
    simp
    generalize hN : 2 ^ x.p.toNat = N at *
    refine awp_loop2 [1] [] (fun k : Nat => [(4, .ref 100), (5, .ip [iv ((k + 1 : Nat) : Int)])]) (fun k => [(100, .own 1 true (ints (invUp x k)))]) (fun k => k ≤ N - 1) (fun k => N - k) 0 (Weak.trans (weak_frz 5 rfl rfl) (weak_mk (fun t => if t = 100 then some 9 else some t) (by simp) (by simp [invUp]) rfl)) (by simp) ?_
    intro k hk
    simp
    refine ⟨_, one_spec _ hl.2.2.1, ?_⟩
    rw [q2]
    have hkl := invUp_length x k
    by_cases hlt : k + 1 < N
    · have hset : M ((k + 1 : Nat) : Int) := by unfold M; omega
      simp [show ((k : Int) + 1 < N) by omega]
      refine ⟨_, isInvariant_spec _ _ x ((k + 1 : Nat) : Int) hM hset hl.1 hl.2.1, ?_⟩
      cases hb : kept x ((k + 1 : Nat) : Int)
      · have e : invUp x (k + 1) = invUp x k := by rw [invUp, hb]; rfl
        simp
        rw [wrap_id ((k : Int) + 1 + 1) (by omega) (by omega)]
        exact Round.mk (k + 1) (Weak.trans (weak_frz 5 rfl rfl) (weak_mk some (by simp) (by simp [e]) rfl)) (by omega) (by omega)
      · simp
        refine ⟨_, ContainsFunc_spec _ _ (by unfold Fits; omega) _ _ (fun part => ibits .andNot .i64 part ((k + 1 : Nat) : Int) == 0) (fun n _ => inv1_spec n _) rfl, ?_⟩
        cases hc : (invUp x k).any fun part => ibits .andNot .i64 part ((k + 1 : Nat) : Int) == 0
        · have e : invUp x (k + 1) = invUp x k ++ [((k + 1 : Nat) : Int)] := by rw [invUp, hb, hc]; rfl
          simp
          rw [wrap_id ((k : Int) + 1 + 1) (by omega) (by omega)]
          repeat (refine And.intro (by omega) ?_)
          exact Round.mk (k + 1) (Weak.trans (weak_frz 5 rfl rfl) (weak_mk (fun t => if t = 100 then some 29 else some t) (by simp) (by simp [e]) rfl)) (by omega) (by omega)
        · have e : invUp x (k + 1) = invUp x k := by rw [invUp, hb, hc]; rfl
          simp
          rw [wrap_id ((k : Int) + 1 + 1) (by omega) (by omega)]
          exact Round.mk (k + 1) (Weak.trans (weak_frz 5 rfl rfl) (weak_mk some (by simp) (by simp [e]) rfl)) (by omega) (by omega)
    · obtain rfl : k = N - 1 := by omega
      simp [show ¬ (((N - 1 : Nat) : Int) + 1 < N) by omega]
      by_cases h6 : (invUp x (N - 1)).length ≤ 256
      · simp [h6]
        omega
      · simp [h6]
        omega
theorem inv_step {l : List Int} {S : Int} {kp : Bool} {j : Nat} (hjl : j < l.length) (hb : true = (kp && !((l.take j).any fun part => ibits .andNot .i64 part S == 0))) :
    (ibits .andNot .i64 (nth l j) S != 0) = (kp && !((l.take (j + 1)).any fun part => ibits .andNot .i64 part S == 0)) := by
  have h1 : kp = true := by cases kp <;> simp at hb ⊢
  have h2 : (l.take j).any (fun part => ibits .andNot .i64 part S == 0) = false := by rw [h1] at hb; simpa using hb
  rw [take_succ _ _ hjl, List.any_append, h1, h2]
  show _ = (true && !(false || (_ || _)))
  have e : l.getD j 0 = nth l j := rfl
  rw [e]
  simp [bne]
theorem specInvariantsOf_spec (n1 n2 : Bool) (x : NetV) (hx : NetOk x) : ACalls1 Try.prog 8 [netSl n1 n2 x] (.tup [.own 1 false (ints (invariantsOfV x).1), iv (invariantsOfV x).2]) := by
  refine walk (fun t => t == 1) mixed Go.Proofs.Try.func8 rfl rfl rfl (by kernel_rfl) rfl (by simp) (by kernel_rfl) ?_
  simp
  refine ⟨_, l17Is_spec _ _ x.p x.pre x.post x.s hx.1, ?_⟩
  unfold invariantsOfV
  cases h : isNet x.p x.pre x.post x.s
  · simp
  · have hl := isNet_len h
    have hM := isNet_M h
    obtain ⟨q1, q2, q3, q4⟩ := p12 hl.2.2.1 hl.2.2.2
    simp
    generalize hN : 2 ^ x.p.toNat = N at *
    refine awp_loop2 [1] [] (fun k : Nat => [(4, .ref 100), (5, iv ((k + 1 : Nat) : Int))]) (fun k => [(100, .own 1 true (ints (invUp x k)))]) (fun k => k ≤ N - 1) (fun k => N - k) 0 (weak_mk (fun t => if t = 100 then some 11 else some t) (by simp) (by simp [invUp]) rfl) (by simp) ?_
    intro k hk
    simp
    refine ⟨_, l01Full_spec _ hx.1, ?_⟩
    rw [q4]
    have hkl := invUp_length x k
    by_cases hlt : k + 1 < N
    · have hset : M ((k + 1 : Nat) : Int) := by unfold M; omega
      simp [show ((k : Int) + 1 ≤ (N - 1 : Nat)) by omega]
      refine ⟨_, l17Kept_spec _ _ x ((k + 1 : Nat) : Int) hM hset (by omega) hl.1 hl.2.1, ?_⟩
      simp
      refine awp_loop2 [1, 4, 5] [100] (fun s : Nat × Bool => [(7, iv s.1), (6, bv s.2)]) (fun _ => []) (fun s => s.1 ≤ (invUp x k).length ∧ (s.2 = (kept x ((k + 1 : Nat) : Int) && !(((invUp x k).take s.1).any fun part => ibits .andNot .i64 part ((k + 1 : Nat) : Int) == 0)))) (fun s => (invUp x k).length - s.1) (0, kept x ((k + 1 : Nat) : Int)) (weak_mk some (by simp) (by simp) rfl) (by simp) ?_
      rintro ⟨j, b⟩ ⟨hj, hb⟩
      simp only at hj hb
      have stop : b = false → invUp x (k + 1) = invUp x k := by
        intro hbf
        rw [hbf] at hb
        rw [invUp]
        have : (kept x ((k + 1 : Nat) : Int) && !((invUp x k).any fun part => ibits .andNot .i64 part ((k + 1 : Nat) : Int) == 0)) = false := by
          cases hk' : kept x ((k + 1 : Nat) : Int)
          · rfl
          · rw [hk'] at hb
            have h2 : ((invUp x k).take j).any (fun part => ibits .andNot .i64 part ((k + 1 : Nat) : Int) == 0) = true := by simpa using hb
            obtain ⟨y, hy, hy2⟩ := List.any_eq_true.1 h2
            rw [List.any_eq_true.2 ⟨y, List.mem_of_mem_take hy, hy2⟩]; rfl
        rw [this]; rfl
      by_cases hjl : j < (invUp x k).length
      · cases b with
        | false =>
          have e := stop rfl
          simp [hjl]
          rw [wrap_id ((k : Int) + 1 + 1) (by omega) (by omega)]
          exact Round.mk (k + 1) (weak_mk some (by simp) (by simp [e]) rfl) (by omega) (by omega)
        | true =>
          simp [hjl, wrap_id ((j : Int) + 1) (by omega) (by omega)]
          repeat (refine And.intro (by omega) ?_)
          refine Round.mk (j + 1, ibits .andNot .i64 (nth (invUp x k) j) ((k + 1 : Nat) : Int) != 0) (weak_mk some (by simp) (by simp) rfl) ⟨hjl, ?_⟩ (by simp only; omega)
          exact inv_step hjl hb
      · obtain rfl : j = (invUp x k).length := by omega
        rw [List.take_length] at hb
        cases b with
        | false =>
          have e := stop rfl
          simp
          rw [wrap_id ((k : Int) + 1 + 1) (by omega) (by omega)]
          exact Round.mk (k + 1) (weak_mk some (by simp) (by simp [e]) rfl) (by omega) (by omega)
        | true =>
          have e : invUp x (k + 1) = invUp x k ++ [((k + 1 : Nat) : Int)] := by rw [invUp, ← hb]; rfl
          simp
          rw [wrap_id ((k : Int) + 1 + 1) (by omega) (by omega)]
          repeat (refine And.intro (by omega) ?_)
          exact Round.mk (k + 1) (weak_mk (fun t => if t = 100 then some 42 else some t) (by simp) (by simp [e]) rfl) (by omega) (by omega)
    · obtain rfl : k = N - 1 := by omega
      simp [show ¬ (((N - 1 : Nat) : Int) + 1 ≤ (N - 1 : Nat)) by omega]
      by_cases h6 : (invUp x (N - 1)).length ≤ 256
      · simp [h6]
        omega
      · simp [h6]
        omega
theorem InvariantsOf_fits (x : NetV) (hx : NetOk x) : ListOk (invariantsOfV x).1 := by
  unfold invariantsOfV
  split
  · rename_i h
    have hl := isNet_len h
    obtain ⟨q1, q2, q3, q4⟩ := p12 hl.2.2.1 hl.2.2.2
    split
    · have := invUp_length x (2 ^ x.p.toNat - 1)
      refine ⟨by simp only [Fits]; omega, fun i hi => ?_⟩
      have := invUp_mem x _ i hi
      unfold I64; omega
    · simp [ListOk, Fits]
  · simp [ListOk, Fits]
end Go.AM
