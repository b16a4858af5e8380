/-
  Several texts in one: FnBig FnIv FnDp FnGt FnGu FnCf FnGv.
-/
import Derived.Test.YtmpdpjpebekfkaaDoorFnDr
import Derived.Test.YtmpdpjpebekfkaaDoorFnPop
import Derived.Test.YtmpdpjpebekfkaaDoorFnA
import Derived.Test.YtmpdpjpebekfkaaDoorFnGl
import Derived.Test.YtmpdpjpebekfkaaDoorFnPc
import Derived.Test.YtmpdpjpebekfkaaDoorAmList
import Derived.Test.YtmpdpjpebekfkaaDoorFnN
set_option linter.unusedVariables false
set_option linter.unusedSimpArgs false
set_option linter.unusedSectionVars false
set_option maxRecDepth 100000
set_option maxHeartbeats 1600000
namespace Go.AM
open Go.Proofs
theorem u8_of_wf {n : Int} (h : (Lit.int .u8 n).wf = true) : 0 ≤ n ∧ n ≤ 255 := by
  simp only [Lit.wf, Bool.and_eq_true, decide_eq_true_eq] at h
  exact h
def CodeIn (l : List Int) : Prop := l.length ≤ maxLen ∧ ∀ x ∈ l, (Lit.int .u8 x).wf = true
theorem big_spec (nn : Bool) (l : List Int) : ACalls1 Tryd.prog 18 [.sl 1 nn (bys l)] (bv (decide (4096 < l.length))) := by
  refine walk (fun _ => false) mixed Go.Proofs.Tryd.func18 rfl rfl rfl (by kernel_rfl) rfl (by simp) (by kernel_rfl) ?_
  simp
  omega
theorem bysOk_of {l : List Int} (h : CodeIn l) (h2 : ¬ 4096 < l.length) : BysOk l := ⟨by omega, fun x hx => u8_of_wf (h.2 x hx)⟩
@[simp] theorem backL_sl (sz : Nat) (b : Bool) (l ys : List AV) : backL [AV.sl sz b l] ys = [] := by
  cases ys with
  | nil => rfl
  | cons y ys => cases y <;> simp [backL, back2, back1]
theorem flat_bys (l : List Int) : (l.flatMap fun y => [AV.val (.int .u8 y)]) = bys l := by
  induction l with
  | nil => rfl
  | cons a l ih => simp only [List.flatMap_cons, ih]; rfl
theorem popc_rec (n : Nat) (h : n ≠ 0) : popc n = n % 2 + popc (n / 2) := by rw [popc]; simp [h]
theorem popc_self (n : Nat) : popc n ≤ n := by
  induction n using Nat.strongRecOn with
  | _ n ih =>
    by_cases h : n = 0
    · subst h; rw [popc]; simp
    · rw [popc_rec n h]; have := ih (n / 2) (by omega); omega
theorem bits9_spec (m : Nat) (hm : m < 9223372036854775808) : ACalls1 Tryd.prog 25 [iv m] (iv (popc m)) := by
  refine walk (fun _ => false) mixed Go.Proofs.Tryd.func25 rfl rfl rfl (by kernel_rfl) rfl (by simp) (by kernel_rfl) ?_
  simp
  refine awp_loop2 [] [] (fun q : Nat × Nat => [(0, iv q.1), (3, iv q.2)]) (fun _ => []) (fun q => q.1 ≤ m ∧ q.2 + popc q.1 = popc m) (fun q => q.1) (m, 0) (weak_mk some (by simp) (by simp) rfl) (by simp) ?_
  rintro ⟨x, c⟩ ⟨hx, hc⟩
  simp only at hx hc
  have hp := popc_self m
  by_cases h : 0 < x
  · have h1 : ((x : Nat) : Int).tmod 2 = ((x % 2 : Nat) : Int) := by rw [Int.tmod_eq_emod_of_nonneg (by omega)]; omega
    have h2 : ((x : Nat) : Int).tdiv 2 = ((x / 2 : Nat) : Int) := by rw [Int.tdiv_eq_ediv_of_nonneg (by omega)]; omega
    have hr := popc_rec x (by omega)
    simp [h, h1, h2]
    rw [wrap_id _ (by omega) (by omega), wrap_id _ (by omega) (by omega)]
    exact Round.mk (x / 2, c + x % 2) (weak_mk some (by simp) (by simp) rfl) ⟨by simp only; omega, by simp only; omega⟩ (by simp only; omega)
  · obtain rfl : x = 0 := by omega
    rw [show popc 0 = 0 by rw [popc]; simp] at hc
    simp
    omega
theorem i64_snc {l : List Int} {a : Int} (h : ∀ y ∈ l, I64 y) (ha : I64 a) : ∀ y ∈ l ++ [a], I64 y := fun y hy => by
  rcases List.mem_append.1 hy with hy | hy
  · exact h y hy
  · simp at hy; rw [hy]; exact ha
theorem M_i64 {a : Int} (h : M a) : I64 a := by unfold I64; have := h.1; have := h.2; omega
/-- Places and a word as they are drawn. -/
def GosIn (n : Int) (pl w : List Int) : Prop := 0 ≤ n ∧ n ≤ 4 ∧ pl.length ≤ 5 ∧ w.length ≤ 15 ∧ (∀ y ∈ pl, I64 y) ∧ ∀ y ∈ w, I64 y
theorem l14DrawPlaces_spec (nn : Bool) (l : List Int) (s : Src) (hs : SrcOk l s) (n k : Nat) (hn : n ≤ 4) (hk : k ≤ 5) : ACalls Tryd.prog 121 [srcA nn l s, iv n, iv k]
    (fun xs r => ∃ s' w, SrcOk l s' ∧ w.length = k ∧ (∀ y ∈ w, I64 y) ∧ xs = [srcA nn l s', iv n, iv k] ∧ r = .own 1 true (ints w)) := by
  refine walkR (fun t => t == 1016 || t == 2018 || t == 2021 || t == 2026) mixed Go.Proofs.Tryd.func121 rfl rfl rfl (by kernel_rfl) (by simp) (by simp) (by simp) (by kernel_rfl) ?_
  simp
  refine awp_loop2 [0, 1, 2] [] (fun q : Src × Nat × List Int => [(8, iv q.2.1), (7, .ref 200)]) (fun q => [(1000000000, srcA nn l q.1), (200, .own 1 true (ints q.2.2))])
    (fun q => SrcOk l q.1 ∧ q.2.1 ≤ k ∧ q.2.2.length = q.2.1 ∧ ∀ y ∈ q.2.2, I64 y) (fun q => k - q.2.1) (s, 0, []) (weak_mk (fun t => if t = 200 then some 10 else some t) (by simp) (by simp) rfl) (by simp; exact hs) ?_
  rintro ⟨q, a, out⟩ ⟨hq, ha, hlo, hio⟩
  simp only at hq ha hlo hio
  by_cases hlt : a < k
  · simp [hlt]
    refine ⟨_, _, l01Next_spec nn l q hq n (by unfold I64; omega), ?_⟩
    have hq1 := nxS_ok hq (n : Int)
    have ha1 := nxN_rng hq (n : Int)
    generalize nxS l q (n : Int) = q1 at *
    generalize nxN l q (n : Int) = b1 at *
    obtain ⟨c1, rfl⟩ := Int.eq_ofNat_of_zero_le ha1.1
    simp
    refine ⟨_, l01One_spec c1 (by unfold I64; omega), ?_⟩
    simp
    refine ⟨_, _, l01Next_spec nn l q1 hq1 2 (by unfold I64; omega), ?_⟩
    have hq2 := nxS_ok hq1 2
    generalize nxS l q1 2 = q2 at *
    generalize nxN l q1 2 = r2 at *
    simp
    refine ⟨fun h0 => ?_, fun h0 => ?_⟩
    · refine ⟨_, _, l01Next_spec nn l q2 hq2 n (by unfold I64; omega), ?_⟩
      have hq3 := nxS_ok hq2 (n : Int)
      have ha3 := nxN_rng hq2 (n : Int)
      generalize nxS l q2 (n : Int) = q3 at *
      generalize nxN l q2 (n : Int) = b3 at *
      obtain ⟨c3, rfl⟩ := Int.eq_ofNat_of_zero_le ha3.1
      simp
      refine ⟨_, l01One_spec c3 (by unfold I64; omega), ?_⟩
      simp
      rw [wrap_id ((a : Int) + 1) (by omega) (by omega)]
      exact ⟨by omega, by omega, Round.mk (q3, a + 1, out ++ [ibits .or .i64 (pow1 c1) (pow1 c3)]) (weak_mk (fun t => if t = 200 then some 32 else some t) (by simp) (by simp) rfl) ⟨hq3, hlt, by simp; omega, i64_snc hio (M_i64 (M_or (M_pow1 (by omega)) (M_pow1 (by omega))))⟩ (by simp only; omega)⟩
    · rw [wrap_id ((a : Int) + 1) (by omega) (by omega)]
      exact ⟨by omega, by omega, Round.mk (q2, a + 1, out ++ [pow1 c1]) (weak_mk (fun t => if t = 200 then some 32 else some t) (by simp) (by simp) rfl) ⟨hq2, hlt, by simp; omega, i64_snc hio (M_i64 (M_pow1 (by omega)))⟩ (by simp only; omega)⟩
  · obtain rfl : a = k := by omega
    simp
    exact ⟨_, .refl _, q, hq, out, hlo, hio, ⟨rfl, rfl⟩, rfl⟩
theorem l15DrawOne_spec (nn : Bool) (l : List Int) (hl : BysOk l) : ACalls Tryd.prog 66 [.sl 1 nn (bys l)]
    (fun xs r => ∃ n pl w, GosIn n pl w ∧ xs = [.sl 1 nn (bys l)] ∧ r = .tup [iv n, .own 1 false (ints pl), .own 1 false (ints w)]) := by
  refine walkR (fun t => t == 2014 || t == 2017 || t == 7022 || t == 2025 || t == 2033 || t == 2037 || t == 2046) mixed Go.Proofs.Tryd.func66 rfl rfl rfl (by kernel_rfl) (by simp) (by simp) (by simp) (by kernel_rfl) ?_
  simp
  refine ⟨_, l01From_spec nn l hl, ?_⟩
  have hs := src0_ok hl
  generalize src0 l = s at *
  simp
  refine ⟨_, _, l01Next_spec nn l s hs 4 (by unfold I64; omega), ?_⟩
  have hs1 := nxS_ok hs 4
  have ha1 := nxN_rng hs 4
  generalize nxS l s 4 = s1 at *
  generalize nxN l s 4 = r1 at *
  obtain ⟨n, hn, hn1, hn4⟩ : ∃ n : Nat, IntKind.i64.wrap (1 + r1) = (n : Int) ∧ 1 ≤ n ∧ n ≤ 4 := ⟨(1 + r1).toNat, by rw [wrap_id _ (by omega) (by omega)]; omega, by omega, by omega⟩
  simp [hn]
  refine ⟨_, _, l01Next_spec nn l s1 hs1 5 (by unfold I64; omega), ?_⟩
  have hs2 := nxS_ok hs1 5
  have ha2 := nxN_rng hs1 5
  generalize nxS l s1 5 = s2 at *
  generalize nxN l s1 5 = r2 at *
  obtain ⟨k, hk, hk1, hk5⟩ : ∃ k : Nat, IntKind.i64.wrap (1 + r2) = (k : Int) ∧ 1 ≤ k ∧ k ≤ 5 := ⟨(1 + r2).toNat, by rw [wrap_id _ (by omega) (by omega)]; omega, by omega, by omega⟩
  simp [hk]
  refine ⟨_, l14DrawPlaces_spec nn l s2 hs2 n k hn4 hk5, ?_⟩
  rintro _ _ ⟨s3, pl, hs3, hp1, hp2, rfl, rfl⟩
  simp
  refine ⟨_, _, l01Next_spec nn l s3 hs3 15 (by unfold I64; omega), ?_⟩
  have hs4 := nxS_ok hs3 15
  have ha4 := nxN_rng hs3 15
  generalize nxS l s3 15 = s4 at *
  generalize nxN l s3 15 = r4 at *
  obtain ⟨m0, rfl⟩ := Int.eq_ofNat_of_zero_le ha4.1
  simp
  refine awp_loop2 [5, 6, 7, 8] [22] (fun q : Src × Nat × List Int => [(10, iv q.2.1), (9, .ref 200)]) (fun q => [(12, srcA nn l q.1), (200, .own 1 true (ints q.2.2))])
    (fun q => SrcOk l q.1 ∧ q.2.2.length + q.2.1 ≤ 14 ∧ ∀ y ∈ q.2.2, I64 y) (fun q => q.2.1) (s4, m0, []) (weak_mk (fun t => if t = 200 then some 23 else some t) (by simp) (by simp) rfl) (by simp; exact ⟨hs4, by omega⟩) ?_
  rintro ⟨q, m, w⟩ ⟨hq, hlo, hio⟩
  simp only at hq hlo hio
  have fin : ∀ (N : Int) (A W : List Int), 0 ≤ N → N ≤ 4 → A.length ≤ 5 → W.length ≤ 15 → (∀ y ∈ A, I64 y) → (∀ y ∈ W, I64 y) →
      ∃ r, Le (AV.tup [iv N, AV.own 1 true (ints A), AV.own 1 true (ints W)]) r ∧ ∃ n pl w, GosIn n pl w ∧ r = .tup [iv n, .own 1 false (ints pl), .own 1 false (ints w)] :=
    fun N A W h1 h2 h3 h4 h5 h6 => ⟨_, by simp, N, A, W, ⟨h1, h2, h3, h4, h5, h6⟩, rfl⟩
  by_cases hm : 0 < m
  · simp [hm]
    refine ⟨_, _, l01Next_spec nn l q hq k (by unfold I64; omega), ?_⟩
    have hq1 := nxS_ok hq (k : Int)
    have hb := nxN_rng hq (k : Int)
    generalize nxS l q (k : Int) = q1 at *
    generalize nxN l q (k : Int) = b at *
    simp
    rw [show IntKind.i64.wrap ((m : Int) - 1) = ((m - 1 : Nat) : Int) by rw [wrap_id _ (by omega) (by omega)]; omega]
    exact ⟨by omega, by omega, Round.mk (q1, m - 1, w ++ [b]) (weak_mk (fun t => if t = 200 then some 35 else some t) (by simp) (by simp) rfl) ⟨hq1, by simp; omega, i64_snc hio (by unfold I64; omega)⟩ (by simp only; omega)⟩
  · obtain rfl : m = 0 := by omega
    simp
    refine ⟨_, _, l01Next_spec nn l q hq 30 (by unfold I64; omega), ?_⟩
    have hq1 := nxS_ok hq 30
    have hb := nxN_rng hq 30
    generalize nxS l q 30 = q1 at *
    generalize nxN l q 30 = b at *
    simp
    rw [show IntKind.i64.wrap ((n : Int) - 1) = ((n : Int) - 1) from wrap_id _ (by omega) (by omega)]
    refine ⟨fun _ => fin _ _ _ (by omega) (by omega) (by omega) (by omega) hp2 hio, fun _ => ⟨fun _ => ?_, fun _ => ⟨fun _ => ?_, fun _ => fin _ _ _ (by omega) (by omega) (by omega) (by omega) hp2 hio⟩⟩⟩
    · refine ⟨_, _, l01Next_spec nn l q1 hq1 10 (by unfold I64; omega), ?_⟩
      have hc := nxN_rng hq1 10
      generalize nxS l q1 10 = q2 at *
      generalize nxN l q1 10 = c at *
      simp
      rw [show IntKind.i64.wrap (c - 1) = (c - 1) from wrap_id _ (by omega) (by omega)]
      have hs' : AV.own 1 true (ints w ++ [iv (c - 1)]) = AV.own 1 true (ints (w ++ [c - 1])) := by simp
      exact ⟨by omega, by omega, fin _ _ _ (by omega) (by omega) (by omega) (by simp; omega) hp2 (i64_snc hio (by unfold I64; omega))⟩
    · refine ⟨by omega, ?_⟩
      obtain ⟨p0, pl, rfl⟩ : ∃ p0 pl', pl = p0 :: pl' := by
        cases pl with
        | nil => simp at hp1; omega
        | cons p0 pl' => exact ⟨p0, pl', rfl⟩
      have h9 : ∀ y ∈ (0 : Int) :: pl, I64 y := fun y hy => by
        rcases List.mem_cons.1 hy with hy | hy
        · rw [hy]; unfold I64; omega
        · exact hp2 y (List.mem_cons_of_mem _ hy)
      exact fin n (0 :: pl) w (by omega) (by omega) (by simp at hp1 ⊢; omega) (by omega) h9 hio
theorem DrawLabelsOf_spec (nn : Bool) (l : List Int) (hl : BysOk l) : ACalls Tryd.prog 19 [.sl 1 nn (bys l)]
    (fun xs r => ∃ n pl w, GosIn n pl w ∧ xs = [.sl 1 nn (bys l)] ∧ r = .tup [iv n, .own 1 false (ints pl), .own 1 false (ints w)]) := by
  refine walkR (fun t => t == 7006) mixed Go.Proofs.Tryd.func19 rfl rfl rfl (by kernel_rfl) (by simp) (by simp) (by simp) (by kernel_rfl) ?_
  simp
  refine ⟨_, l15DrawOne_spec nn l hl, ?_⟩
  rintro _ _ ⟨n, pl, w, h, rfl, rfl⟩
  simp
  exact ⟨_, .refl _, n, pl, w, h, rfl⟩
theorem DrawStampsOf_spec (nn : Bool) (l : List Int) (hl : BysOk l) : ACalls Tryd.prog 28 [.sl 1 nn (bys l)]
    (fun xs r => ∃ n pl w, GosIn n pl w ∧ xs = [.sl 1 nn (bys l)] ∧ r = .tup [iv n, .own 1 false (ints pl), .own 1 false (ints w)]) := by
  refine walkR (fun t => t == 7006) mixed Go.Proofs.Tryd.func28 rfl rfl rfl (by kernel_rfl) (by simp) (by simp) (by simp) (by kernel_rfl) ?_
  simp
  refine ⟨_, l15DrawOne_spec nn l hl, ?_⟩
  rintro _ _ ⟨n, pl, w, h, rfl, rfl⟩
  simp
  exact ⟨_, .refl _, n, pl, w, h, rfl⟩
/-- The pasts are what the steps make of them. -/
def GosPast (g : GosV) : Prop := g.past = pastL (stepP g.pl g.f) g.f.length
theorem gosW_past (n : Int) (pl w : List Int) : GosPast (gosW n pl w) := rfl
/-- A process takes part in an event; an event is in a past. -/
def onP (g : GosV) (i q : Nat) : Bool := tb (nth g.pl (natAt g.f i)) q
def pa (g : GosV) (i j : Nat) : Bool := tb (nth g.past i) j
theorem meets_iff {p q : Int} (hp : M p) (hq : M q) : meets p q = true ↔ ∃ i, tb p i = true ∧ tb q i = true := by
  unfold meets
  constructor
  · intro h
    have h0 : ¬ ibits .and .i64 p q = 0 := by simpa using h
    rw [eq_zero_iff (M_and hp hq)] at h0
    refine Classical.byContradiction fun hn => h0 fun i => ?_
    rw [tb_and hp hq]
    cases h1 : tb p i <;> cases h2 : tb q i <;> try rfl
    exact absurd ⟨i, h1, h2⟩ hn
  · rintro ⟨i, h1, h2⟩
    have h0 : ¬ ibits .and .i64 p q = 0 := fun e => by
      rw [eq_zero_iff (M_and hp hq)] at e
      have := e i
      rw [tb_and hp hq, h1, h2] at this; cases this
    simpa using h0
section
variable {g : GosV} (hg : GosOk g) (hp : GosPast g)
include hg hp
theorem pa_iff {i : Nat} (hi : i < g.f.length) (j : Nat) : pa g i j = true ↔ j = i ∨ ∃ k q, k < i ∧ onP g k q = true ∧ onP g i q = true ∧ pa g k j = true := by
  have hlen := hg.len
  obtain ⟨_, _, _, hF⟩ := gos_facts hg
  have e : ∀ k, k < g.f.length → nth g.past k = nth (pastL (stepP g.pl g.f) g.f.length) k := fun k _ => by rw [hp]
  unfold pa
  rw [e i hi, pastL_nth _ hi, tb_pr (M_pow1 (by omega)) j (fun k hk => pastL_M _ i (by omega) k hk), tb_pow1 (by omega)]
  constructor
  · rintro (h | ⟨k, h1, h2, h3⟩)
    · left; simp at h; exact h.symm
    · right
      unfold stepP at h2
      obtain ⟨q, q1, q2⟩ := (meets_iff (hF k (by omega)).2.1 (hF i hi).2.1).1 h2
      refine ⟨k, q, h1, q1, q2, ?_⟩
      rw [e k (by omega), pastL_nth _ (show k < g.f.length by omega), ← pastL_nth _ h1]; exact h3
  · rintro (h | ⟨k, q, h1, q1, q2, h3⟩)
    · left; simp [h]
    · right
      refine ⟨k, h1, (meets_iff (hF k (by omega)).2.1 (hF i hi).2.1).2 ⟨q, q1, q2⟩, ?_⟩
      rw [e k (by omega), pastL_nth _ (show k < g.f.length by omega), ← pastL_nth _ h1] at h3; exact h3
theorem pa_self {i : Nat} (hi : i < g.f.length) : pa g i i = true := (pa_iff hg hp hi i).2 (.inl rfl)
theorem pa_step {i k q : Nat} (hi : i < g.f.length) (hk : k < i) (h1 : onP g k q = true) (h2 : onP g i q = true) : pa g i k = true :=
  (pa_iff hg hp hi k).2 (.inr ⟨k, q, hk, h1, h2, pa_self hg hp (by omega)⟩)
theorem pa_low {i j : Nat} (hi : i < g.f.length) (h : pa g i j = true) : j ≤ i := by
  induction i using Nat.strongRecOn with
  | _ i ih =>
    rcases (pa_iff hg hp hi j).1 h with e | ⟨k, q, h1, _, _, h3⟩
    · omega
    · have := ih k h1 (by omega) h3; omega
theorem pa_trans {i j : Nat} (h : pa g i j = true) : ∀ {k : Nat}, k < g.f.length → pa g k i = true → pa g k j = true := by
  intro k
  induction k using Nat.strongRecOn with
  | _ k ih =>
    intro hk h2
    rcases (pa_iff hg hp hk i).1 h2 with e | ⟨m, q, h3, h4, h5, h6⟩
    · rw [← e]; exact h
    · exact (pa_iff hg hp hk j).2 (.inr ⟨m, q, h3, h4, h5, ih m h3 (by omega) h6⟩)
/-- On the way from an event of a part that is closed below to one outside it, there is a step out of the part. -/
theorem pa_cross {Z : Nat → Prop} {j : Nat} (hj : Z j) : ∀ {m : Nat}, m < g.f.length → pa g m j = true → Z m ∨ ∃ x y q, Z x ∧ ¬ Z y ∧ x < y ∧ y ≤ m ∧ onP g x q = true ∧ onP g y q = true ∧ pa g x j = true ∧ pa g m y = true := by
  intro m
  induction m using Nat.strongRecOn with
  | _ m ih =>
    intro hm h
    by_cases hz : Z m
    · exact .inl hz
    · right
      rcases (pa_iff hg hp hm j).1 h with e | ⟨k, q, h1, h2, h3, h4⟩
      · rw [e] at hj; exact absurd hj hz
      · by_cases hk : Z k
        · exact ⟨k, m, q, hk, hz, h1, Nat.le_refl _, h2, h3, h4, pa_self hg hp hm⟩
        · rcases ih k h1 (by omega) h4 with h5 | ⟨x, y, q', a1, a2, a3, a4, a5, a6, a7, a8⟩
          · exact absurd h5 hk
          · exact ⟨x, y, q', a1, a2, a3, by omega, a5, a6, a7, pa_trans hg hp a8 hm (pa_step hg hp hm h1 h2 h3)⟩
end
/-- The last one of some events in which a process takes part. -/
def lst (g : GosV) (S : Nat → Bool) (q : Nat) : Int := lastB (fun i => S i && onP g i q) g.f.length
theorem lastB_max {T : Nat → Bool} : ∀ {k : Nat}, (lastB T k = -1 ∧ ∀ i, i < k → T i = false) ∨ ∃ i : Nat, i < k ∧ lastB T k = i ∧ T i = true ∧ ∀ j, j < k → T j = true → j ≤ i
  | 0 => .inl ⟨rfl, fun i h => by omega⟩
  | k + 1 => by
    rw [lastB]
    by_cases h : T k = true
    · rw [if_pos h]; exact .inr ⟨k, by omega, rfl, h, fun j hj _ => by omega⟩
    · rw [if_neg h]
      rcases lastB_max (T := T) (k := k) with ⟨e, h1⟩ | ⟨i, h1, h2, h3, h4⟩
      · exact .inl ⟨e, fun i hi => by
          by_cases e : i = k
          · subst e; simpa using h
          · exact h1 i (by omega)⟩
      · refine .inr ⟨i, by omega, h2, h3, fun j hj hT => ?_⟩
        by_cases e : j = k
        · subst e; exact absurd hT h
        · exact h4 j (by omega) hT
theorem lst_cases (g : GosV) (S : Nat → Bool) (q : Nat) : (lst g S q = -1 ∧ ∀ i, i < g.f.length → S i = true → onP g i q = false) ∨
    ∃ i : Nat, i < g.f.length ∧ lst g S q = i ∧ S i = true ∧ onP g i q = true ∧ ∀ j, j < g.f.length → S j = true → onP g j q = true → j ≤ i := by
  rcases lastB_max (T := fun i => S i && onP g i q) (k := g.f.length) with ⟨e, h⟩ | ⟨i, h1, h2, h3, h4⟩
  · refine .inl ⟨e, fun i hi hS => ?_⟩
    have := h i hi
    rw [hS, Bool.true_and] at this; exact this
  · simp only [Bool.and_eq_true] at h3
    exact .inr ⟨i, h1, h2, h3.1, h3.2, fun j hj hS ho => h4 j hj (by simp only [hS, ho, Bool.and_self])⟩
theorem lst_of {g : GosV} {S : Nat → Bool} {q i : Nat} (hi : i < g.f.length) (hS : S i = true) (ho : onP g i q = true) (hm : ∀ j, j < g.f.length → S j = true → onP g j q = true → j ≤ i) : lst g S q = i := by
  rcases lst_cases g S q with ⟨_, h⟩ | ⟨k, h1, h2, h3, h4, h5⟩
  · have := h i hi hS; rw [ho] at this; cases this
  · have a := h5 i hi hS ho
    have b := hm k h1 h3 h4
    rw [h2]; omega
theorem lst_some {g : GosV} {S : Nat → Bool} {q i : Nat} (h : lst g S q = (i : Int)) : i < g.f.length ∧ S i = true ∧ onP g i q = true ∧ ∀ j, j < g.f.length → S j = true → onP g j q = true → j ≤ i := by
  rcases lst_cases g S q with ⟨e, _⟩ | ⟨k, h1, h2, h3, h4, h5⟩
  · omega
  · have : k = i := by omega
    subst this; exact ⟨h1, h3, h4, h5⟩
theorem lastOn_lst (g : GosV) (m : Int) (q : Nat) : lastOn g m q = lst g (fun i => tb m i) q := rfl
section
variable {g : GosV} (hg : GosOk g) (hp : GosPast g)
include hg hp
/-- Where a view leaves a part, there is a latest event of the part. -/
theorem meet_last {Z : Nat → Bool} (hZ : ∀ x y, x < g.f.length → Z x = true → pa g x y = true → Z y = true) {j m p : Nat} (hj : Z j = true) (hm : m < g.f.length) (hpm : onP g m p = true) (hl : ∀ i, i < g.f.length → Z i = true → onP g i p = true → i ≤ m) (h : pa g m j = true) :
    ∃ q f : Nat, lst g Z q = f ∧ pa g m f = true ∧ pa g f j = true := by
  rcases pa_cross hg hp (Z := fun x => Z x = true) hj hm h with hz | ⟨x, y, q, a1, a2, a3, a4, a5, a6, a7, a8⟩
  · exact ⟨p, m, lst_of hm hz hpm hl, pa_self hg hp hm, h⟩
  · rcases lst_cases g Z q with ⟨_, hn⟩ | ⟨f, h1, h2, h3, h4, h5⟩
    · have := hn x (by omega) a1; rw [a5] at this; cases this
    · have hxf := h5 x (by omega) a1 a5
      have hfy : f < y := by
        rcases Nat.lt_trichotomy f y with h6 | h6 | h6
        · exact h6
        · subst h6; exact absurd h3 a2
        · exact absurd (hZ f y h1 h3 (pa_step hg hp h1 h6 a6 h4)) a2
      refine ⟨q, f, h2, pa_trans hg hp (pa_step hg hp (by omega) hfy h4 a6) hm a8, ?_⟩
      rcases Nat.lt_or_eq_of_le hxf with h6 | h6
      · exact pa_trans hg hp a7 h1 (pa_step hg hp h1 h6 a5 h4)
      · rw [← h6]; exact a7
end
/-! The least number that a list lacks. -/
theorem mex_spec {U : List Int} : ∀ m c, U.length + 1 ≤ m + c → (∀ j : Nat, j < c → (j : Int) ∈ U) → ¬ (mexFrom U m c : Int) ∈ U ∧ mexFrom U m c ≤ U.length
  | 0, c, h, hall => by have := pigeon c U hall; omega
  | m + 1, c, h, hall => by
    have hc := pigeon c U hall
    rw [mexFrom]
    split
    · rename_i hin
      refine mex_spec m (c + 1) (by omega) fun j hj => ?_
      by_cases e : j = c
      · subst e; exact hin
      · exact hall j (by omega)
    · rename_i hin
      exact ⟨hin, hc⟩
theorem mexU_spec (U : List Int) : ¬ (mexU U : Int) ∈ U ∧ mexU U ≤ U.length := mex_spec _ 0 (by omega) (fun j h => by omega)
theorem labL_pre (g : GosV) {i k : Nat} (hi : i < k) : ∀ {N : Nat}, k ≤ N → nth (labL g N) i = nth (labL g k) i
  | 0, h => by omega
  | N + 1, h => by
    by_cases e : k = N + 1
    · rw [e]
    · rw [← labL_pre g hi (show k ≤ N by omega), labL, nth_at (by simp; omega), List.getElem_append_left (by simp; omega), ← nth_at]
theorem labL_at (g : GosV) {k N : Nat} (h : k < N) : nth (labL g N) k = (mexU (usedL g (labL g k) k (Bn (nth g.pl (natAt g.f k)))) : Int) := by
  rw [labL_pre g (show k < k + 1 by omega) (show k + 1 ≤ N from h), labL, nth_at (by simp), List.getElem_append_right (by simp)]
  simp
theorem on_lt {g : GosV} (hg : GosOk g) {i q : Nat} (hi : i < g.f.length) (h : onP g i q = true) : (q : Int) < g.n := by
  have := (pl_mask hg.pl _ (hg.f _ (natAt_mem hi))).2.2 q
  unfold onP at h
  by_cases hq : g.n ≤ (q : Int)
  · rw [this hq] at h; cases h
  · omega
/-- A view: all that precedes a last event. -/
theorem view_some {g : GosV} (hg : GosOk g) {p : Nat} {m : Nat} (h : lastOn g (allOn g) p = m) : m < g.f.length ∧ onP g m p = true ∧ (∀ j, j < g.f.length → onP g j p = true → j ≤ m) ∧ ∀ j, tb (viewOn g (allOn g) p) j = pa g m j := by
  have hlen := hg.len
  rw [lastOn_lst] at h
  obtain ⟨h1, h2, h3, h4⟩ := lst_some h
  refine ⟨h1, h3, fun j hj ho => h4 j hj (by unfold allOn; rw [tb_full (by omega)]; simpa using hj) ho, fun j => ?_⟩
  rw [← lastOn_lst] at h
  unfold viewOn pastOn pa
  rw [h, if_neg (by omega)]; simp
theorem view_none {g : GosV} {p : Nat} (h : lastOn g (allOn g) p < 0) : viewOn g (allOn g) p = 0 := by unfold viewOn pastOn; rw [if_pos h]
section
variable {g : GosV} (hg : GosOk g) (hp : GosPast g)
include hg hp
/-- What a process knows to be the latest. -/
theorem known_some {p s i : Nat} (h : lastOn g (viewOn g (allOn g) p) s = i) : ∃ m, (m < g.f.length ∧ onP g m p = true ∧ (∀ j, j < g.f.length → onP g j p = true → j ≤ m) ∧ ∀ j, tb (viewOn g (allOn g) p) j = pa g m j) ∧
    i < g.f.length ∧ pa g m i = true ∧ onP g i s = true ∧ ∀ j, j < g.f.length → pa g m j = true → onP g j s = true → j ≤ i := by
  rw [lastOn_lst] at h
  obtain ⟨h1, h2, h3, h4⟩ := lst_some h
  by_cases hm : lastOn g (allOn g) p < 0
  · rw [view_none hm] at h2; simp at h2
  · obtain ⟨m, hm'⟩ := Int.eq_ofNat_of_zero_le (show 0 ≤ lastOn g (allOn g) p by omega)
    have hv := view_some hg hm'
    refine ⟨m, hv, h1, by rw [← hv.2.2.2]; exact h2, h3, fun j hj hpj ho => h4 j hj (by rw [hv.2.2.2]; exact hpj) ho⟩
theorem pa_closed (m : Nat) (hm : m < g.f.length) : ∀ x y, x < g.f.length → pa g m x = true → pa g x y = true → pa g m y = true := fun x y _ h1 h2 => pa_trans hg hp h2 hm h1
/-- Two events of a letter, the former of which some process knows as a latest one: their labels differ. -/
theorem label_ne {p s i k : Nat} (h : lastOn g (viewOn g (allOn g) p) s = i) (hik : i < k) (hk : k < g.f.length) (hlet : natAt g.f i = natAt g.f k) : nth (labL g g.f.length) i ≠ nth (labL g g.f.length) k := by
  have hlen := hg.len
  obtain ⟨h8, hn1, hn4, hF⟩ := gos_facts hg
  obtain ⟨m, ⟨m1, m2, m3, m4⟩, i1, i2, i3, i4⟩ := known_some hg hp h
  have hks : onP g k s = true := by unfold onP at i3 ⊢; rw [← hlet]; exact i3
  have hmk : pa g m k = false := by
    cases e : pa g m k
    · rfl
    · have := i4 k hk e hks; omega
  let Z : Nat → Bool := fun x => pa g k x && x != k
  have zi : ∀ x, Z x = true ↔ pa g k x = true ∧ x ≠ k := fun x => by simp [Z]
  obtain ⟨q, f, f1, f2, f3⟩ := meet_last hg hp (Z := Z) (fun x y hx hz hxy => by
      obtain ⟨z1, z2⟩ := (zi x).1 hz
      have a := pa_low hg hp hx hxy
      have b := pa_low hg hp hk z1
      exact (zi y).2 ⟨pa_trans hg hp hxy hk z1, by omega⟩) (j := i) (m := m) (p := p) ((zi i).2 ⟨pa_step hg hp hk hik i3 hks, by omega⟩) m1 m2 (fun x hx _ ho => m3 x hx ho) i2
  obtain ⟨fL, fZ, fq, fmax⟩ := lst_some f1
  obtain ⟨z1, z2⟩ := (zi f).1 fZ
  rcases (pa_iff hg hp hk f).1 z1 with e | ⟨k', r, r1, r2, r3, r4⟩
  · exact absurd e z2
  -- the last event of r ahead of k
  rcases lst_cases g (fun x => tb (full k) x) r with ⟨_, hno⟩ | ⟨e, e1, e2, e3, e4, e5⟩
  · have := hno k' (by omega) (by rw [tb_full (by omega)]; simpa using r1)
    rw [r2] at this; cases this
  have hek : e < k := by rw [tb_full (by omega)] at e3; simpa using e3
  have hke := e5 k' (by omega) (by rw [tb_full (by omega)]; simpa using r1) r2
  have hef : pa g e f = true := by
    rcases Nat.lt_or_eq_of_le hke with h6 | h6
    · exact pa_trans hg hp r4 e1 (pa_step hg hp e1 h6 r2 e4)
    · rw [← h6]; exact r4
  have hV : ∀ x, tb (viewOn g (full k) r) x = pa g e x := fun x => by
    unfold viewOn pastOn pa
    rw [lastOn_lst, e2, if_neg (by omega)]; simp
  have hlq : lastOn g (viewOn g (full k) r) q = f := by
    rw [lastOn_lst]
    refine lst_of fL (by rw [hV]; exact hef) fq fun x hx hxV ho => ?_
    rw [hV] at hxV
    have := pa_low hg hp e1 hxV
    exact fmax x hx ((zi x).2 ⟨pa_trans hg hp hxV hk (pa_step hg hp hk hek e4 r3), by omega⟩) ho
  have hls : lastOn g (pastOn g (lastOn g (viewOn g (full k) r) q)) s = i := by
    have hP : ∀ x, tb (pastOn g (lastOn g (viewOn g (full k) r) q)) x = pa g f x := fun x => by
      unfold pastOn pa
      rw [hlq, if_neg (by omega)]; simp
    rw [lastOn_lst]
    refine lst_of i1 (by rw [hP]; exact f3) i3 fun x hx hxP ho => ?_
    rw [hP] at hxP
    exact i4 x hx (pa_trans hg hp hxP m1 f2) ho
  have hr := on_lt hg hk r3
  have hq := on_lt hg fL fq
  have hs := on_lt hg i1 i3
  have hrow : (i : Int) ∈ rowQ g k r := by
    unfold rowQ
    rw [List.mem_flatten]
    refine ⟨latL g (pastOn g (lastOn g (viewOn g (full k) r) q)), ?_, ?_⟩
    · unfold secL
      exact List.mem_map.2 ⟨q, List.mem_range.2 (by omega), rfl⟩
    · unfold latL
      exact List.mem_map.2 ⟨s, List.mem_range.2 (by omega), hls⟩
  have hused : nth (labL g k) i ∈ usedL g (labL g k) k (Bn (nth g.pl (natAt g.f k))) := by
    unfold usedL
    rw [List.mem_flatMap]
    refine ⟨r, by unfold Bn; rw [List.mem_filter, List.mem_range]; exact ⟨by omega, r3⟩, ?_⟩
    unfold usedRow
    rw [List.mem_map]
    exact ⟨(i : Int), by rw [List.mem_filter]; exact ⟨hrow, by simp⟩, by simp⟩
  rw [labL_at g hk, labL_pre g hik (by omega)]
  intro e
  exact (mexU_spec (usedL g (labL g k) k (Bn (nth g.pl (natAt g.f k))))).1 (e ▸ hused)
/-- Latest events with the same letter and the same label are the same. -/
theorem mark_same {p s q t : Nat} {e f : Int} (he : lastOn g (viewOn g (allOn g) p) s = e) (hf : lastOn g (viewOn g (allOn g) q) t = f) : markB g (labL g g.f.length) e f = (decide (0 ≤ e) && decide (e = f)) := by
  obtain ⟨_, _, _, hF⟩ := gos_facts hg
  unfold markB
  by_cases h1 : 0 ≤ e
  · by_cases h2 : 0 ≤ f
    · obtain ⟨i, rfl⟩ := Int.eq_ofNat_of_zero_le h1
      obtain ⟨k, rfl⟩ := Int.eq_ofNat_of_zero_le h2
      obtain ⟨_, _, hi, _⟩ := known_some hg hp he
      obtain ⟨_, _, hk, _⟩ := known_some hg hp hf
      by_cases hik : i = k
      · subst hik; simp
      · have hne : ¬ ((i : Int) = k) := by omega
        by_cases hl : natAt g.f i = natAt g.f k
        · have hlab : nth (labL g g.f.length) i ≠ nth (labL g g.f.length) k := by
            rcases Nat.lt_trichotomy i k with h | h | h
            · exact label_ne hg hp he h hk hl
            · exact absurd h hik
            · exact fun e => label_ne hg hp hf h hi hl.symm e.symm
          simp [hne, hlab]
        · have : ¬ nth (nats g.f) i = nth (nats g.f) k := by rw [(hF i hi).2.2, (hF k hk).2.2]; omega
          simp [hne, this]
    · have : ¬ e = f := by omega
      simp [h2, this]
  · simp [h1]
/-- What marks tell of the newest news is what the views tell. -/
theorem newer_labels {p q r : Nat} (hr : (r : Int) < g.n) : newByF g (labL g g.f.length) (latL g (viewOn g (allOn g) p)) (latL g (viewOn g (allOn g) q)) g.n.toNat r = newerF g p q r := by
  obtain ⟨_, _, _, hF⟩ := gos_facts hg
  have e1 : nth (latL g (viewOn g (allOn g) p)) r = lastOn g (viewOn g (allOn g) p) r := latL_nth (by omega)
  have e2 : nth (latL g (viewOn g (allOn g) q)) r = lastOn g (viewOn g (allOn g) q) r := latL_nth (by omega)
  unfold newByF newerF
  rw [e1, e2, mark_same hg hp rfl rfl]
  have b1 := lastOn_bd g (viewOn g (allOn g) p) r
  have b2 := lastOn_bd g (viewOn g (allOn g) q) r
  generalize hE : lastOn g (viewOn g (allOn g) p) r = e at *
  generalize hFF : lastOn g (viewOn g (allOn g) q) r = f at *
  by_cases h1 : e < 0
  · by_cases h2 : f < 0
    · rw [if_pos ⟨h1, h2⟩, if_neg (by omega), if_neg (by omega)]
    · rw [if_neg (by omega), if_neg (by simp; omega), if_neg h2, if_pos h1, if_neg (by omega), if_pos (by omega)]
  · by_cases h2 : f < 0
    · rw [if_neg (by omega), if_neg (by simp; omega), if_pos h2, if_pos (by omega)]
    · obtain ⟨i, rfl⟩ := Int.eq_ofNat_of_zero_le (show 0 ≤ e by omega)
      obtain ⟨k, rfl⟩ := Int.eq_ofNat_of_zero_le (show 0 ≤ f by omega)
      rw [if_neg (by omega)]
      by_cases h3 : (i : Int) = k
      · rw [if_pos (by simp; omega), if_neg (by omega), if_neg (by omega)]
      · rw [if_neg (by simp; omega), if_neg h2, if_neg h1]
        obtain ⟨m, ⟨m1, m2, m3, m4⟩, i1, i2, i3, i4⟩ := known_some hg hp hE
        obtain ⟨m', ⟨m1', m2', m3', m4'⟩, k1, k2, k3, k4⟩ := known_some hg hp hFF
        have key : anyB (pairM g (labL g g.f.length) (latL g (viewOn g (allOn g) p)) (latL g (viewOn g (allOn g) q)) (Int.toNat (i : Int))) g.n.toNat = true ↔ i < k := by
          rw [Int.toNat_natCast]
          constructor
          · intro h
            unfold anyB at h
            simp only [List.any_eq_true, List.mem_range] at h
            obtain ⟨a, ha, b, hb, h⟩ := h
            unfold pairM at h
            rw [latL_nth ha, latL_nth hb, mark_same hg hp rfl rfl] at h
            simp only [Bool.and_eq_true, decide_eq_true_eq] at h
            obtain ⟨⟨g1, g2⟩, g3⟩ := h
            obtain ⟨x, hx⟩ := Int.eq_ofNat_of_zero_le g1
            rw [hx] at g2 g3
            obtain ⟨mm, ⟨_, _, _, hv⟩, x1, x2, _, _⟩ := known_some hg hp g2.symm
            have hsame : ∀ j, pa g mm j = pa g m' j := fun j => by rw [← hv, ← m4']
            rw [hsame] at x2
            have hki : pa g m' i = true := pa_trans hg hp (by unfold pa; simpa using g3) m1' x2
            have := k4 i i1 hki i3
            omega
          · intro h
            have hik : pa g k i = true := pa_step hg hp k1 h i3 k3
            have hmi : pa g m' i = true := pa_trans hg hp hik m1' k2
            -- the greatest event of both views above i
            rcases lastB_max (T := fun x => pa g m x && pa g m' x && pa g x i) (k := g.f.length) with ⟨_, hno⟩ | ⟨x, x1, _, x3, x4⟩
            · have := hno i i1
              simp only [i2, hmi, pa_self hg hp i1, Bool.and_self] at this; cases this
            · simp only [Bool.and_eq_true] at x3
              obtain ⟨⟨y1, y2⟩, y3⟩ := x3
              obtain ⟨b, f, f1, f2, f3⟩ := meet_last hg hp (Z := fun x => pa g m' x) (pa_closed hg hp m' m1') (j := x) (m := m) (p := p) y2 m1 m2 (fun j hj _ ho => m3 j hj ho) y1
              obtain ⟨fL, fZ, fb, _⟩ := lst_some f1
              have hfx : f = x := by
                have a1 := x4 f fL (by simp only [f2, fZ, pa_trans hg hp y3 fL f3, Bool.and_self])
                have a2 := pa_low hg hp fL f3
                omega
              obtain ⟨a, f', f1', f2', f3'⟩ := meet_last hg hp (Z := fun x => pa g m x) (pa_closed hg hp m m1) (j := x) (m := m') (p := q) y1 m1' m2' (fun j hj _ ho => m3' j hj ho) y2
              obtain ⟨fL', fZ', fa', _⟩ := lst_some f1'
              have hfx' : f' = x := by
                have a1 := x4 f' fL' (by simp only [f2', fZ', pa_trans hg hp y3 fL' f3', Bool.and_self])
                have a2 := pa_low hg hp fL' f3'
                omega
              have la : lastOn g (viewOn g (allOn g) p) a = x := by
                rw [lastOn_lst]
                have : (fun i => tb (viewOn g (allOn g) p) i) = fun x => pa g m x := funext m4
                rw [this, f1', hfx']
              have lb : lastOn g (viewOn g (allOn g) q) b = x := by
                rw [lastOn_lst]
                have : (fun i => tb (viewOn g (allOn g) q) i) = fun x => pa g m' x := funext m4'
                rw [this, f1, hfx]
              have ha := on_lt hg fL' fa'
              have hb := on_lt hg fL fb
              refine anyB_t (i := a) (j := b) (by omega) (by omega) ?_
              unfold pairM
              rw [latL_nth (by omega), latL_nth (by omega), mark_same hg hp rfl rfl, la, lb]
              simp only [Bool.and_eq_true, decide_eq_true_eq, Int.toNat_natCast]
              exact ⟨⟨by omega, trivial⟩, y3⟩
        by_cases hik : i < k
        · rw [if_pos (key.2 hik), if_neg (by omega), if_pos (by omega)]
        · rw [if_neg (fun h => hik (key.1 h)), if_pos (by omega)]
end
/-- Labels stay small. -/
theorem label_small {g : GosV} (hg : GosOk g) {k : Nat} (hk : k < g.f.length) : 0 ≤ nth (labL g g.f.length) k ∧ nth (labL g g.f.length) k ≤ (popc (nth g.pl (natAt g.f k)).toNat : Int) * g.n * g.n := by
  obtain ⟨h8, hn1, hn4, hF⟩ := gos_facts hg
  rw [labL_at g hk]
  refine ⟨by omega, ?_⟩
  have h1 := (mexU_spec (usedL g (labL g k) k (Bn (nth g.pl (natAt g.f k))))).2
  have hrow : ∀ q, (rowQ g k q).length ≤ g.n.toNat * g.n.toNat := fun q => by
    unfold rowQ
    have := flatten_len (c := g.n.toNat) (secL g (viewOn g (full k) q)) fun r hr => by
      obtain ⟨q', _, rfl⟩ := List.mem_map.1 hr
      simp
    simpa [secL] using this
  have hu : ∀ qs : List Nat, (usedL g (labL g k) k qs).length ≤ qs.length * (g.n.toNat * g.n.toNat) := by
    intro qs
    induction qs with
    | nil => simp [usedL]
    | cons q qs ih =>
      have h2 := usedRow_length (labL g k) (rowQ g k q)
      have h3 := hrow q
      simp only [usedL, List.flatMap_cons, List.length_append, List.length_cons] at ih ⊢
      rw [Nat.succ_mul]; omega
  have h2 := hu (Bn (nth g.pl (natAt g.f k)))
  have hM := (hF k hk).2.1
  have hb : (Bn (nth g.pl (natAt g.f k))).length = popc (nth g.pl (natAt g.f k)).toNat := by
    rw [popc_card 63 _ (by rw [p63]; have := hM.2; have := hM.1; omega)]; rfl
  rw [hb] at h2
  have e : ((popc (nth g.pl (natAt g.f k)).toNat : Int)) * g.n * g.n = ((popc (nth g.pl (natAt g.f k)).toNat * (g.n.toNat * g.n.toNat) : Nat) : Int) := by
    obtain ⟨n, hn⟩ := Int.eq_ofNat_of_zero_le (show 0 ≤ g.n by omega)
    rw [hn, Int.toNat_natCast, Int.mul_assoc]; simp
  rw [e]
  omega
theorem nthR_in {rs : List (List Int)} {k : Nat} (h : k < rs.length) : nthR rs k ∈ rs := by rw [nthR_at h]; exact List.getElem_mem h
theorem IndexFuncR_spec (nn b : Bool) (rs : List (List Int)) (hl : rs.length < 1099511627776) (g : FuncId) (caps : List AV) (p : List Int → Bool) (hg : ∀ r, r ∈ rs → ACalls1 Tryd.prog g (.sl 1 b (ints r) :: caps) (bv (p r))) (hc : immL [.fn g caps] = true) :
    ACalls1 Tryd.prog 185 [.sl 1 nn (srows b rs), .fn g caps] (iv (if rs.any p then ((rs.findIdx p : Nat) : Int) else -1)) := by
  generalize hv : (if rs.any p then ((rs.findIdx p : Nat) : Int) else -1) = v
  refine walk (fun _ => false) mixed Go.Proofs.Tryd.func185 rfl rfl rfl (by kernel_rfl) rfl (by simp) (by kernel_rfl) ?_
  simp
  refine awp_loop2 [0, 1, 7] [] (fun k : Nat => [(8, iv k)]) (fun _ => []) (fun k => k ≤ rs.length ∧ ∀ j, j < k → p (nthR rs j) = false) (fun k => rs.length - k) 0 (weak_mk some (by simp) (by simp) rfl) (by simp) ?_
  rintro k ⟨hk, hall⟩
  by_cases hlt : k < rs.length
  · simp [hlt]
    refine ⟨_, hg _ (nthR_in hlt), ?_⟩
    cases hp : p (nthR rs k)
    · simp [wrap_id ((k : Int) + 1) (by omega) (by omega)]
      refine Round.mk (k + 1) (weak_mk some (by simp) (by simp) rfl) ⟨hlt, fun j hj => ?_⟩ (by omega)
      by_cases e : j = k
      · subst e; exact hp
      · exact hall j (by omega)
    · have h1 : rs.any p = true := List.any_eq_true.2 ⟨_, nthR_in hlt, hp⟩
      have h2 : rs.findIdx p = k := by
        rw [List.findIdx_eq hlt]
        exact ⟨by rw [nthR_at hlt] at hp; exact hp, fun j hj => by have := hall j hj; rwa [nthR_at (by omega)] at this⟩
      rw [if_pos h1, h2] at hv
      subst hv
      simp
  · obtain rfl : k = rs.length := by omega
    have h1 : rs.any p = false := by
      rw [List.any_eq_false]
      intro r hr
      obtain ⟨j, hj, rfl⟩ := List.mem_iff_getElem.1 hr
      have := hall j hj
      rw [nthR_at hj] at this
      simp [this]
    rw [h1, if_neg (by simp)] at hv
    subst hv
    simp
theorem ContainsFuncR_spec (nn b : Bool) (rs : List (List Int)) (hl : rs.length < 1099511627776) (g : FuncId) (caps : List AV) (p : List Int → Bool) (hg : ∀ r, r ∈ rs → ACalls1 Tryd.prog g (.sl 1 b (ints r) :: caps) (bv (p r))) (hc : immL [.fn g caps] = true) :
    ACalls1 Tryd.prog 149 [.sl 1 nn (srows b rs), .fn g caps] (bv (rs.any p)) := by
  refine walk (fun _ => false) mixed Go.Proofs.Tryd.func149 rfl rfl rfl (by kernel_rfl) rfl (by simp) (by kernel_rfl) ?_
  simp
  refine ⟨_, IndexFuncR_spec nn b rs hl g caps p hg hc, ?_⟩
  cases rs.any p
  · simp
  · simp
/-- The alphabet of places. -/
def alphaP (pl : List Int) : AlphaV := ⟨pl.length, depP pl⟩
theorem alphaP_ok {n : Int} {pl : List Int} (h : arePl n pl = true) : isAlphaV (alphaP pl) = true := by
  obtain ⟨h8, _⟩ := pl_len h
  have hl : (depP pl).length = pl.length := depP_length pl
  have hc : ∀ a b, a < pl.length → b < pl.length → meets (nth pl a) (nth pl b) = meets (nth pl b) (nth pl a) := fun a b ha hb => by
    have h1 := (pl_mask h a ha).1
    have h2 := (pl_mask h b hb).1
    rw [Bool.eq_iff_iff, meets_iff h1 h2, meets_iff h2 h1]
    exact ⟨fun ⟨i, x, y⟩ => ⟨i, y, x⟩, fun ⟨i, x, y⟩ => ⟨i, y, x⟩⟩
  simp only [isAlphaV, alphaP, hl, Bool.and_eq_true, decide_eq_true_eq, List.all_eq_true, List.mem_range]
  refine ⟨⟨⟨⟨?_, ?_⟩, trivial⟩, ?_⟩, ?_⟩
  · exact decide_eq_true (p := (0 : Int) ≤ (pl.length : Int)) (by omega)
  · exact decide_eq_true (p := (pl.length : Int) ≤ 8) (by omega)
  · have : (depP pl).all (isM pl.length) = true := all_nth.2 fun i hi => by
      rw [depP_nth (by omega)]
      refine isM_of (by omega) (M_orMask _ M_zero _ (by omega)) fun j hj => ?_
      rw [tb_orMask _ M_zero _ _ (by omega)]
      simp; omega
    exact List.all_eq_true.1 this
  · intro a ha
    simp only [alphaRow, depB, Bool.and_eq_true, List.all_eq_true, List.mem_range, beq_iff_eq]
    rw [show nth (depP pl) a = nth (depP pl) a from rfl, depP_tb h8 ha ha]
    refine ⟨meets_self h ha, fun b hb => ?_⟩
    have hb' : b < pl.length := by rw [hl] at hb; exact hb
    rw [depP_tb h8 ha hb', depP_tb h8 hb' ha, hc a b ha hb']
theorem AlphabetOfPlaces_spec (nn : Bool) (n : Int) (pl : List Int) (h : arePl n pl = true) : ACalls1 Tryd.prog 22 [iv n, .sl 1 nn (ints pl)] (.tup [alphaOw false (alphaP pl), iv 0]) := by
  obtain ⟨h8, _⟩ := pl_len h
  refine walk (fun _ => false) mixed Go.Proofs.Tryd.func22 rfl rfl rfl (by kernel_rfl) rfl (by simp) (by kernel_rfl) ?_
  simp
  refine ⟨_, arePlaces_spec n nn pl (by unfold Fits; omega), ?_⟩
  simp [h]
  refine ⟨_, alphabetOf_spec nn n pl h, ?_⟩
  simp [alphaP]
theorem isWord_spec (a b : Bool) (x : AlphaV) (hx : x.letters = x.depends.length) (h8 : x.depends.length ≤ 8) (w : List Int) (hw : Fits w) : ACalls1 Tryd.prog 171 [alphaSl a x, .sl 1 b (ints w)] (bv (overW x.depends.length w)) := by
  have hw' := hw
  unfold Fits at hw
  refine walk (fun _ => false) mixed Go.Proofs.Tryd.func171 rfl rfl rfl (by kernel_rfl) rfl (by simp) (by kernel_rfl) ?_
  have hw1 : IntKind.i64.wrap ((x.depends.length : Int) - 1) = (x.depends.length : Int) - 1 := wrap_id _ (by omega) (by omega)
  by_cases h24 : (w.length : Int) ≤ 24
  · have h24' : ¬ (24 : Int) < w.length := by omega
    simp [hx, h24, h24', hw1]
    repeat (rw [exE_eq]; simp [hx, h24, h24', hw1])
    refine ⟨_, allIn_spec b w _ _ hw', ?_⟩
    simp [overW, h24]
  · have : overW x.depends.length w = false := by unfold overW; rw [decide_eq_false h24]; rfl
    rw [this]
    simp [hx, h24]
    repeat (rw [exE_eq]; simp [hx, h24])
theorem checkWords1_spec (a b : Bool) (x : AlphaV) (hx : x.letters = x.depends.length) (h8 : x.depends.length ≤ 8) (w : List Int) (hw : Fits w) : ACalls1 Tryd.prog 170 [.sl 1 b (ints w), .ip [iv x.letters, .sl 1 a (ints x.depends)]] (bv (!overW x.depends.length w)) := by
  refine walk (fun _ => false) mixed Go.Proofs.Tryd.func170 rfl rfl rfl (by kernel_rfl) rfl (by simp) (by kernel_rfl) ?_
  simp
  refine ⟨_, isWord_spec a b x hx h8 w hw, ?_⟩
  simp
theorem checkWords_yes (a b c : Bool) (x : AlphaV) (hx : isAlphaV x = true) (rs : List (List Int)) (hl : rs.length < 1000) (hr : ∀ r ∈ rs, overW x.depends.length r = true) : ACalls1 Tryd.prog 134 [alphaSl a x, .sl 1 c (srows b rs)] (iv 0) := by
  have hok := alOk_of hx
  have h8 := hok.len
  have hlt := hok.let_
  refine walk (fun t => t == 2) mixed Go.Proofs.Tryd.func134 rfl rfl rfl (by kernel_rfl) rfl (by simp) (by kernel_rfl) ?_
  simp
  refine ⟨_, IsAlphabet_spec a x (by rw [hlt]; unfold I64; omega) (by unfold Fits; omega), ?_⟩
  simp [hx]
  refine ⟨_, ContainsFuncR_spec c b rs (by omega) 170 [.ip [iv x.letters, .sl 1 a (ints x.depends)]] (fun r => !overW x.depends.length r) (fun r hr' => checkWords1_spec a b x hlt h8 r (by have := overW_len (hr r hr'); unfold Fits; omega)) rfl, ?_⟩
  have : (rs.any fun r => !overW x.depends.length r) = false := by
    rw [List.any_eq_false]; intro r hr'; simp [hr r hr']
  rw [this]
  simp
theorem NormalForm_spec (a b : Bool) (x : AlphaV) (hx : isAlphaV x = true) (w : List Int) (hw : overW x.depends.length w = true) : ACalls1 Tryd.prog 73 [alphaSl a x, .sl 1 b (ints w)] (.tup [.own 1 true (ints (nats (nf x.depends (wn w)))), iv 0]) := by
  have hok := alOk_of hx
  obtain ⟨e, hu, h24⟩ := overW_wn hw
  have ht : TOk x.depends := ⟨by have := hok.len; omega, fun i hi => (alOk_M hok hi).1⟩
  refine walk (fun t => t == 4009) mixed Go.Proofs.Tryd.func73 rfl rfl rfl (by kernel_rfl) rfl (by simp) (by kernel_rfl) ?_
  simp
  refine ⟨_, checkWords_yes a b true x hx [w] (by simp) (by simp [hw]), ?_⟩
  simp
  refine ⟨_, ties_spec a x, ?_⟩
  rw [e]
  simp
  refine ⟨_, normal_spec a b x.depends ht (wn w) hu, ?_⟩
  simp [← e]
theorem normal9_spec (a b : Bool) (x : AlphaV) (hx : isAlphaV x = true) (w : List Int) (hw : overW x.depends.length w = true) : ACalls1 Tryd.prog 23 [alphaSl a x, .sl 1 b (ints w)] (.own 1 true (ints (nats (nf x.depends (wn w))))) := by
  refine walk (fun _ => false) mixed Go.Proofs.Tryd.func23 rfl rfl rfl (by kernel_rfl) rfl (by simp) (by kernel_rfl) ?_
  simp
  refine ⟨_, NormalForm_spec a b x hx w hw, ?_⟩
  simp
end Go.AM
