/-
  Contracts of what the law of stamps asks.
-/
import Derived.Test.YtmpdpjpebekfkaaDoorFnSx
set_option linter.unusedVariables false
set_option linter.unusedSimpArgs false
set_option maxRecDepth 100000
set_option maxHeartbeats 1600000
namespace Go.AM
open Go.Proofs
theorem likeInts_same (a b : Bool) (l : List Int) (hl : l.length < 1000000) : ACalls1 Tryd.prog 36 [.sl 1 a (ints l), .sl 1 b (ints l)] (bv true) := by
  refine walk (fun _ => false) mixed Go.Proofs.Tryd.func36 rfl rfl rfl (by kernel_rfl) rfl (by simp) (by kernel_rfl) ?_
  simp
  refine awp_loop2 [0, 1] [] (fun k : Nat => [(5, iv k)]) (fun _ => []) (fun k => k ≤ l.length) (fun k => l.length - k) 0 (weak_mk some (by simp) (by simp) rfl) (by simp) ?_
  intro k hk
  by_cases hlt : k < l.length
  · simp [hlt]
    rw [wrap_id ((k : Int) + 1) (by omega) (by omega)]
    exact Round.mk (k + 1) (weak_mk some (by simp) (by simp) rfl) hlt (by omega)
  · obtain rfl : k = l.length := by omega
    simp
theorem sum_zero (a : Bool) (l : List Int) (hl : l.length < 1000000) (h0 : ∀ i, i < l.length → nth l i = 0) : ACalls1 Tryd.prog 39 [.sl 1 a (ints l)] (iv 0) := by
  refine walk (fun _ => false) mixed Go.Proofs.Tryd.func39 rfl rfl rfl (by kernel_rfl) rfl (by simp) (by kernel_rfl) ?_
  simp
  refine awp_loop2 [0] [] (fun k : Nat => [(4, iv k), (3, iv 0)]) (fun _ => []) (fun k => k ≤ l.length) (fun k => l.length - k) 0 (weak_mk some (by simp) (by simp) rfl) (by simp) ?_
  intro k hk
  by_cases hlt : k < l.length
  · have hw0 : IntKind.i64.wrap 0 = 0 := by decide
    simp [hlt, h0 k hlt, hw0]
    rw [wrap_id ((k : Int) + 1) (by omega) (by omega)]
    exact Round.mk (k + 1) (weak_mk some (by simp) (by simp) rfl) hlt (by omega)
  · obtain rfl : k = l.length := by omega
    simp
theorem last9_spec (a b : Bool) (pl : List Int) (f : List Nat) (hf : ∀ x ∈ f, x < pl.length) (h24 : f.length ≤ 24) (hp8 : pl.length ≤ 8) (hM : ∀ i, i < pl.length → M (nth pl i)) (set : Int) (hs : M set) (q : Nat) (hq : q < 63) :
    ACalls1 Tryd.prog 40 [.sl 1 a (ints pl), .sl 1 b (ints (nats f)), iv set, iv q] (iv (lastB (fun i => tb set i && tb (nth pl (natAt f i)) q) f.length)) := by
  generalize hT : (fun i => tb set i && tb (nth pl (natAt f i)) q) = T
  refine walk (fun _ => false) mixed Go.Proofs.Tryd.func40 rfl rfl rfl (by kernel_rfl) rfl (by simp) (by kernel_rfl) ?_
  simp
  rw [wrap_id ((f.length : Int) - 1) (by omega) (by omega)]
  refine awp_loop2 [0, 1, 2, 3] [] (fun k : Nat => [(9, iv ((k : Int) - 1))]) (fun _ => []) (fun k => k ≤ f.length ∧ lastB T f.length = lastB T k) (fun k => k) f.length (weak_mk some (by simp) (by simp) rfl) (by simp) ?_
  rintro k ⟨hk, hlk⟩
  by_cases hlt : 0 < k
  · obtain ⟨j, rfl⟩ : ∃ j, k = j + 1 := ⟨k - 1, by omega⟩
    have hj : j < f.length := by omega
    have f1 := hf _ (natAt_mem hj)
    have f3 := nats_nth hj
    have hij : (((j + 1 : Nat) : Int) - 1) = (j : Int) := by omega
    have c1 : ¬ (pl.length : Int) ≤ (natAt f j : Int) := by omega
    have c0 : ¬ (natAt f j : Int) < 0 := by omega
    have s1 := shr_has hs j
    have s2 := shr_has (hM _ f1) q
    rw [hij]
    have hTj : T j = (tb set j && tb (nth pl (natAt f j)) q) := by rw [← hT]
    have hwj : IntKind.i64.wrap ((j : Int) - 1) = (j : Int) - 1 := wrap_id _ (by omega) (by omega)
    cases t1 : tb set j
    · simp [hj, f3, c0, c1, f1, s1, s2, t1]
      repeat (rw [exE_eq]; simp [hj, f3, c0, c1, f1, s1, s2, t1])
      rw [hwj]
      exact Round.mk (j) (weak_mk some (by simp) (by simp) rfl) ⟨by omega, by rw [hlk, lastB, if_neg (by rw [hTj, t1]; simp)]⟩ (by omega)
    · cases t2 : tb (nth pl (natAt f j)) q
      · simp [hj, f3, c0, c1, f1, s1, s2, t1, t2]
        repeat (rw [exE_eq]; simp [hj, f3, c0, c1, f1, s1, s2, t1, t2])
        rw [hwj]
        exact Round.mk (j) (weak_mk some (by simp) (by simp) rfl) ⟨by omega, by rw [hlk, lastB, if_neg (by rw [hTj, t1, t2]; simp)]⟩ (by omega)
      · rw [hlk, lastB, if_pos (by rw [hTj, t1, t2]; rfl)]
        simp [hj, f3, c0, c1, f1, s1, s2, t1, t2]
        repeat (rw [exE_eq]; simp [hj, f3, c0, c1, f1, s1, s2, t1, t2])
  · obtain rfl : k = 0 := by omega
    rw [hlk, lastB]
    simp
theorem shr_bit {x : Int} (hx : M x) (i : Nat) : ibits .and .i64 (x.fdiv (2 ^ min i 64)) 1 = 0 ∨ ibits .and .i64 (x.fdiv (2 ^ min i 64)) 1 = 1 := by
  obtain ⟨n, rfl, hn⟩ := M_nat hx
  have e : (n : Int).fdiv (2 ^ min i 64) = ((n / 2 ^ min i 64 : Nat) : Int) := by
    rw [show ((2 : Int) ^ min i 64) = ((2 ^ min i 64 : Nat) : Int) by simp, ← Int.ofNat_fdiv]
  have h2 : n / 2 ^ min i 64 < 2 ^ 63 := Nat.lt_of_le_of_lt (Nat.div_le_self _ _) hn
  rw [e, show (1 : Int) = ((1 : Nat) : Int) from rfl, ib_and _ _ h2 (by rw [p63]; omega), Nat.and_one_is_mod]
  have : (n / 2 ^ min i 64) % 2 < 2 := Nat.mod_lt _ (by omega)
  omega
theorem alpha_sym {x : AlphaV} (hx : isAlphaV x = true) {p q : Nat} (hp : p < x.depends.length) (hq : q < x.depends.length) : tb (nth x.depends p) q = tb (nth x.depends q) p := by
  have h := hx
  unfold isAlphaV at h
  simp only [Bool.and_eq_true, List.all_eq_true, List.mem_range] at h
  have := h.2 p hp
  simp only [alphaRow, Bool.and_eq_true, List.all_eq_true, beq_iff_eq, List.mem_range] at this
  exact this.2 q hq
theorem apart9_spec (a : Bool) (x : AlphaV) (hx : isAlphaV x = true) (p q : Nat) (hp : p < x.depends.length) (hq : q < x.depends.length) : ACalls1 Tryd.prog 86 [alphaSl a x, iv p, iv q] (bv (!tb (nth x.depends p) q)) := by
  have hok := alOk_of hx
  have h8 := hok.len
  have s1 := shr_has (alOk_M hok hp).1 q
  have c1 : ¬ (x.depends.length : Int) ≤ (p : Int) := by omega
  have c2 : ¬ (x.depends.length : Int) ≤ (q : Int) := by omega
  have s2 : (ibits .and .i64 ((nth x.depends p).fdiv (2 ^ min q 64)) 1 == 0) = !tb (nth x.depends p) q := by
    rw [← s1, Bool.eq_iff_iff]
    rcases shr_bit (alOk_M hok hp).1 q with e | e <;> rw [e] <;> simp
  have c3 : ¬ (p : Int) < 0 := by omega
  have c4 : ¬ (q : Int) < 0 := by omega
  refine walk (fun _ => false) mixed Go.Proofs.Tryd.func86 rfl rfl rfl (by kernel_rfl) rfl (by simp) (by kernel_rfl) ?_
  simp [c1, c2, c3, c4, hp]
  repeat (rw [exE_eq]; simp [c1, c2, c3, c4, hp])
  exact s2
theorem turned9_spec (a : Bool) (w : List Int) (i : Nat) (hi : i + 1 < w.length) (hw : w.length < 1000000) : ACalls1 Tryd.prog 87 [.sl 1 a (ints w), iv i] (.own 1 true (ints ((w.set i (nth w (i + 1))).set (i + 1) (nth w i)))) := by
  have hw1 : IntKind.i64.wrap ((i : Int) + 1) = ((i + 1 : Nat) : Int) := by rw [wrap_id _ (by omega) (by omega)]; omega
  refine walk (fun _ => false) mixed Go.Proofs.Tryd.func87 rfl rfl rfl (by kernel_rfl) rfl (by simp) (by kernel_rfl) ?_
  simp [hw1, hi, show i < w.length by omega]
  rw [ints_put w i _ (by omega), ints_put _ (i + 1) _ (by simpa using hi)]
  exact ⟨by omega, by omega, by omega, by omega, by omega, by omega, .inl (.refl _)⟩
theorem below_spec (nn : Bool) (l : List Int) (s : Src) (hs : SrcOk l s) (n : Int) (hn : I64 n) :
    ACalls2 Tryd.prog 85 [srcA nn l s, iv n] [srcA nn l (nxS l s n), iv n] (iv (nxN l s n)) := by
  obtain ⟨x, hx, hx2⟩ := nxX_rng s
  obtain ⟨⟨hl, hb⟩, hp, h0, h1⟩ := hs
  have hw : IntKind.i64.wrap (x : Int) = x := wrap_id _ (by omega) (by omega)
  have hX : ibits BinOp.and IntKind.u64 (s.step.fdiv 8589934592) 16777215 = x := hx
  have hH : IntKind.u64.wrap (IntKind.u64.wrap (s.h * 6364136223846793005) + 1442695040888963407) = s.step := rfl
  unfold nxS nxN
  rw [hx]
  generalize s.step = H at *
  by_cases hn1 : n < 1
  · rw [if_pos hn1, if_pos hn1]
    refine walkO (fun _ => false) mixed Go.Proofs.Tryd.func85 rfl rfl rfl (by kernel_rfl) (by simp) (by simp) (by simp) (by kernel_rfl) ?_
    simp [hn1]
  · rw [if_neg hn1, if_neg hn1]
    by_cases hlt : s.p < l.length
    · have hc := hb _ (List.getElem_mem hlt)
      rw [← nth_at hlt] at hc
      have hw2 : IntKind.i64.wrap (nth l s.p) = nth l s.p := wrap_id _ (by omega) (by omega)
      have hw3 : IntKind.i64.wrap ((x : Int) + nth l s.p) = x + nth l s.p := wrap_id _ (by omega) (by omega)
      have hw4 : IntKind.i64.wrap ((s.p : Int) + 1) = s.p + 1 := wrap_id _ (by omega) (by omega)
      rw [if_pos hlt, if_pos hlt]
      refine walkO (fun _ => false) mixed Go.Proofs.Tryd.func85 rfl rfl rfl (by kernel_rfl) (by simp) (by simp) (by simp) (by kernel_rfl) ?_
      simp [hn1, hlt, hH, hX, hw, hw2, hw3, hw4]
      omega
    · rw [if_neg hlt, if_neg hlt]
      refine walkO (fun _ => false) mixed Go.Proofs.Tryd.func85 rfl rfl rfl (by kernel_rfl) (by simp) (by simp) (by simp) (by kernel_rfl) ?_
      simp [hn1, hlt, hH, hX, hw]
      omega
def rsh (seed : Int) (l : List Int) : Nat → Int
  | 0 => IntKind.u64.wrap (IntKind.u64.wrap (seed * 7681) + IntKind.u64.wrap l.length)
  | k + 1 => IntKind.u64.wrap (IntKind.u64.wrap (IntKind.u64.wrap (rsh seed l k * 1099511628211) + IntKind.u64.wrap (nth l k)) + 5)
theorem rsh_rng (seed : Int) (l : List Int) (k : Nat) : 0 ≤ rsh seed l k ∧ rsh seed l k < 18446744073709551616 := by
  cases k with
  | zero => unfold rsh; rw [wrap_u64']; omega
  | succ k => unfold rsh; rw [wrap_u64']; omega
def roll0 (seed : Int) (l : List Int) : Src := ⟨0, rsh seed l l.length⟩
theorem roll0_ok {seed : Int} {l : List Int} (hl : BysOk l) : SrcOk l (roll0 seed l) := ⟨hl, Nat.zero_le _, (rsh_rng seed l _).1, (rsh_rng seed l _).2⟩
theorem roll_spec (nn : Bool) (l : List Int) (hl : BysOk l) (seed : Int) (hs : 0 ≤ seed) (hs2 : seed < 18446744073709551616) : ACalls1 Tryd.prog 35 [.sl 1 nn (bys l), .val (.int .u64 seed)] (srcA nn l (roll0 seed l)) := by
  refine walk (fun _ => false) mixed Go.Proofs.Tryd.func35 rfl rfl rfl (by kernel_rfl) rfl (by simp) (by kernel_rfl) ?_
  simp
  refine awp_loop2 [0, 5] [] (fun k : Nat => [(6, iv k)]) (fun k => [(15, .box [.sl 1 nn (bys l), iv 0, .val (.int .u64 (rsh seed l k))])]) (fun k => k ≤ l.length) (fun k => l.length - k) 0 (weak_mk some (by simp) (by simp [rsh]) rfl) (by simp) ?_
  intro k hk
  have hlen := hl.1
  by_cases hlt : k < l.length
  · simp [hlt]
    first | refine ⟨⟨by kernel_rfl, by kernel_rfl⟩, ?_⟩ | exact ⟨by kernel_rfl, by kernel_rfl⟩
    rw [wrap_id _ (by omega) (by omega)]
    exact Round.mk (k + 1) (weak_mk some (by simp) (by simp [rsh]) rfl) hlt (by omega)
  · obtain rfl : k = l.length := by omega
    simp [roll0]
    try exact .inl (.refl _)
/-- Neighbours drawn and turned, so many times. -/
def mixF (x : AlphaV) (l : List Int) : Nat → Src → List Nat → Src × List Nat
  | 0, s, v => (s, v)
  | k + 1, s, v => if 1 < v.length then mixF x l k (nxS l s ((v.length - 1 : Nat) : Int)) (if tb (nth x.depends (natAt v (nxN l s ((v.length - 1 : Nat) : Int)).toNat)) (natAt v ((nxN l s ((v.length - 1 : Nat) : Int)).toNat + 1)) = true then v else turnN v (nxN l s ((v.length - 1 : Nat) : Int)).toNat) else (s, v)
theorem mixF_few {x : AlphaV} {l : List Int} {k : Nat} {s : Src} {v : List Nat} (h : ¬ 1 < v.length) : mixF x l k s v = (s, v) := by
  cases k with
  | zero => rfl
  | succ k => rw [mixF, if_neg h]
theorem turn_sw {x : AlphaV} (hx : isAlphaV x = true) {v : List Nat} (hv : ∀ c ∈ v, c < x.depends.length) {i : Nat} (hi : i + 1 < v.length) (hb : tb (nth x.depends (natAt v i)) (natAt v (i + 1)) = false) : Sw x.depends v (turnN v i) :=
  Sw.turn (t := x.depends) v i hi hb (by rw [alpha_sym hx (hv _ (natAt_mem hi)) (hv _ (natAt_mem (show i < v.length by omega)))]; exact hb)
theorem mixF_ok {x : AlphaV} (hx : isAlphaV x = true) {l : List Int} : ∀ (k : Nat) {s : Src} {v : List Nat}, SrcOk l s → (∀ c ∈ v, c < x.depends.length) →
    SrcOk l (mixF x l k s v).1 ∧ (mixF x l k s v).2.length = v.length ∧ (∀ c ∈ (mixF x l k s v).2, c < x.depends.length) ∧ nf x.depends (mixF x l k s v).2 = nf x.depends v
  | 0, s, v, hs, hv => ⟨hs, rfl, hv, rfl⟩
  | k + 1, s, v, hs, hv => by
    have hok := alOk_of hx
    have ht : TOk x.depends := ⟨by have := hok.len; omega, fun i hi => (alOk_M hok hi).1⟩
    by_cases h1 : 1 < v.length
    · rw [mixF, if_pos h1]
      have hs1 := nxS_ok hs ((v.length - 1 : Nat) : Int)
      have hb := nxN_rng hs ((v.length - 1 : Nat) : Int)
      generalize nxS l s ((v.length - 1 : Nat) : Int) = s1 at *
      generalize nxN l s ((v.length - 1 : Nat) : Int) = r at *
      obtain ⟨i, rfl⟩ := Int.eq_ofNat_of_zero_le hb.1
      have hi : i + 1 < v.length := by omega
      simp only [Int.toNat_natCast]
      cases hb2 : tb (nth x.depends (natAt v i)) (natAt v (i + 1))
      · have hsw := turn_sw hx hv hi hb2
        rw [if_neg (by simp)]
        obtain ⟨a1, a2, a3, a4⟩ := mixF_ok hx k (s := s1) (v := turnN v i) hs1 (fun c hc => hv c (hsw.perm.mem_iff.2 hc))
        exact ⟨a1, by rw [a2, turnN_length], a3, by rw [a4]; exact (hsw.nf ht v.length rfl hv).symm⟩
      · rw [if_pos rfl]
        exact mixF_ok hx k hs1 hv
    · rw [mixF, if_neg h1]; exact ⟨hs, rfl, hv, rfl⟩
theorem mixed9_spec (nn : Bool) (l : List Int) (s : Src) (hs : SrcOk l s) (a b : Bool) (x : AlphaV) (hx : isAlphaV x = true) (u : List Nat) (hu : ∀ c ∈ u, c < x.depends.length) (h24 : u.length ≤ 24) :
    ACalls2 Tryd.prog 34 [srcA nn l s, alphaSl a x, .sl 1 b (ints (nats u))] [srcA nn l (mixF x l 12 s u).1, alphaSl a x, .sl 1 b (ints (nats u))] (.own 1 true (ints (nats (mixF x l 12 s u).2))) := by
  have hok := alOk_of hx
  have h8 := hok.len
  have ht : TOk x.depends := ⟨by omega, fun i hi => (alOk_M hok hi).1⟩
  generalize hR : mixF x l 12 s u = R
  refine walkO (fun t => t == 2026) mixed Go.Proofs.Tryd.func34 rfl rfl rfl (by kernel_rfl) (by simp) (by simp) (by simp) (by kernel_rfl) ?_
  simp
  refine ⟨by omega, by omega, ?_⟩
  refine awp_loop2 [0, 1, 2, 4] [4] (fun q : Src × Nat × List Nat => [(8, iv q.2.1), (7, .ref 200)]) (fun q => [(1000000000, srcA nn l q.1), (200, .own 1 true (ints (nats q.2.2)))])
    (fun q => SrcOk l q.1 ∧ q.2.1 ≤ 12 ∧ q.2.2.length = u.length ∧ (∀ c ∈ q.2.2, c < x.depends.length) ∧ mixF x l (12 - q.2.1) q.1 q.2.2 = R) (fun q => 12 - q.2.1) (s, 0, u) (weak_mk (fun t => if t = 200 then some 12 else some t) (by simp) (by simp) rfl) (by simp; exact ⟨hs, hu, hR⟩) ?_
  rintro ⟨q, k, v⟩ ⟨hq, hk, hvl, hvm, hvn⟩
  simp only at hq hk hvl hvm hvn
  by_cases hgo : k < 12 ∧ 1 < v.length
  · obtain ⟨hgo1, hgo2⟩ := hgo
    have hw1 : IntKind.i64.wrap ((v.length : Int) - 1) = ((v.length - 1 : Nat) : Int) := by rw [wrap_id _ (by omega) (by omega)]; omega
    obtain ⟨m, hm⟩ : ∃ m, 12 - k = m + 1 := ⟨11 - k, by omega⟩
    rw [hm, mixF, if_pos hgo2] at hvn
    simp [show (k : Int) < 12 by omega, show (1 : Int) < v.length by omega, hw1]
    refine ⟨_, _, below_spec nn l q hq _ (by unfold I64; omega), ?_⟩
    have hq1 := nxS_ok hq ((v.length - 1 : Nat) : Int)
    have hb := nxN_rng hq ((v.length - 1 : Nat) : Int)
    generalize nxS l q ((v.length - 1 : Nat) : Int) = q1 at *
    generalize nxN l q ((v.length - 1 : Nat) : Int) = r at *
    obtain ⟨i, rfl⟩ := Int.eq_ofNat_of_zero_le hb.1
    simp only [Int.toNat_natCast] at hvn
    have hi : i + 1 < v.length := by omega
    have m1 := hvm _ (natAt_mem (show i < v.length by omega))
    have m2 := hvm _ (natAt_mem hi)
    have hwi : IntKind.i64.wrap ((i : Int) + 1) = ((i + 1 : Nat) : Int) := by rw [wrap_id _ (by omega) (by omega)]; omega
    have n1 := nats_nth (show i < v.length by omega)
    have n2 := nats_nth hi
    have hwk : IntKind.i64.wrap ((k : Int) + 1) = ((k + 1 : Nat) : Int) := by rw [wrap_id _ (by omega) (by omega)]; omega
    simp [hwi, n1, n2, hi, show i < v.length by omega]
    repeat (rw [exE_eq]; simp [hwi, n1, n2, hi, show i < v.length by omega])
    refine ⟨by omega, by omega, by omega, ?_⟩
    refine ⟨_, apart9_spec a x hx _ _ m1 m2, ?_⟩
    cases hb2 : tb (nth x.depends (natAt v i)) (natAt v (i + 1))
    · rw [hb2, if_neg (by simp)] at hvn
      simp
      refine ⟨_, turned9_spec true (nats v) i (by simpa using hi) (by simp; omega), ?_⟩
      rw [turnN_nats hi]
      have hsw := turn_sw hx hvm hi hb2
      simp [hwk]
      exact Round.mk (q1, k + 1, turnN v i) (weak_mk (fun t => if t = 200 then some 40 else some t) (by simp) (by simp) rfl) ⟨hq1, by simp only; omega, by simp only [turnN_length]; exact hvl, fun c hc => hvm c (hsw.perm.mem_iff.2 hc), by simp only; rw [show 12 - (k + 1) = m by omega]; exact hvn⟩ (by simp only; omega)
    · rw [hb2, if_pos rfl] at hvn
      simp [hwk]
      exact Round.mk (q1, k + 1, v) (weak_mk some (by simp) (by simp) rfl) ⟨hq1, by simp only; omega, hvl, hvm, by simp only; rw [show 12 - (k + 1) = m by omega]; exact hvn⟩ (by simp only; omega)
  · have hR2 : R = (q, v) := by
      rw [← hvn]
      by_cases h12 : k < 12
      · exact mixF_few (by omega)
      · rw [show 12 - k = 0 by omega]; rfl
    subst hR2
    by_cases h12 : k < 12
    · have hv1 : ¬ (1 : Int) < v.length := by omega
      have hv2 : v.length ≤ 1 := by omega
      simp [show (k : Int) < 12 by omega, hv1, hv2]
    · simp [show ¬ (k : Int) < 12 by omega]
theorem positions_spec (a b : Bool) (x : AlphaV) (hx : isAlphaV x = true) (w : List Int) (hw : overW x.depends.length w = true) : ACalls1 Tryd.prog 139 [alphaSl a x, .sl 1 b (ints w)] (.tup [.own 1 true (ints (nats (nf x.depends (wn w)))), .own 1 false (ints (clo (edgR x.depends (nf x.depends (wn w)))))]) := by
  have hok := alOk_of hx
  obtain ⟨e, hu, h24⟩ := overW_wn hw
  have ht : TOk x.depends := ⟨by have := hok.len; omega, fun i hi => (alOk_M hok hi).1⟩
  have hpm := nf_perm ht (wn w).length rfl (fun a ha => hu.2 a ha)
  refine walk (fun _ => false) mixed Go.Proofs.Tryd.func139 rfl rfl rfl (by kernel_rfl) rfl (by simp) (by kernel_rfl) ?_
  simp
  refine ⟨_, ties_spec a x, ?_⟩
  rw [e]
  simp
  refine ⟨_, normal_spec a b x.depends ht (wn w) hu, ?_⟩
  simp
  refine ⟨_, ties_spec a x, ?_⟩
  simp
  refine ⟨_, orderOf_spec a true x.depends ht (nf x.depends (wn w)) (fun c hc => hu.2 c (hpm.mem_iff.1 hc)) (by rw [hpm.length_eq]; exact h24), ?_⟩
  simp [← e]
theorem checkPosition_yes (a b : Bool) (x : AlphaV) (hx : isAlphaV x = true) (w : List Int) (hw : overW x.depends.length w = true) (i : Nat) (hi : i < w.length) : ACalls1 Tryd.prog 83 [alphaSl a x, .sl 1 b (ints w), iv i] (.tup [.own 1 false (ints (clo (edgR x.depends (nf x.depends (wn w))))), iv 0]) := by
  have h24 := overW_len hw
  refine walk (fun t => t == 4013) mixed Go.Proofs.Tryd.func83 rfl rfl rfl (by kernel_rfl) rfl (by simp) (by kernel_rfl) ?_
  simp
  refine ⟨_, checkWords_yes a b true x hx [w] (by simp) (by simp [hw]), ?_⟩
  simp
  refine ⟨_, length_spec _ _ (by unfold Fits; omega), ?_⟩
  simp
  rw [wrap_id ((w.length : Int) - 1) (by omega) (by omega)]
  refine ⟨_, inRange_spec _ _ _, ?_⟩
  simp [show (0 : Int) ≤ (i : Int) by omega, show (i : Int) ≤ (w.length : Int) - 1 by omega]
  refine ⟨_, positions_spec a b x hx w hw, ?_⟩
  simp
theorem PastOf_yes (a b : Bool) (n : Int) (pl : List Int) (hpl : arePl n pl = true) (w : List Int) (hw : overW pl.length w = true) (i : Nat) (hi : i < w.length) : ACalls1 Tryd.prog 33 [alphaSl a (alphaP pl), .sl 1 b (ints w), iv i] (.tup [iv (nth (gosW n pl w).past i), iv 0]) := by
  have hx := alphaP_ok hpl
  have hdl : (alphaP pl).depends.length = pl.length := depP_length pl
  have hw' : overW (alphaP pl).depends.length w = true := by rw [hdl]; exact hw
  obtain ⟨h8, _⟩ := pl_len hpl
  have ht := depP_ok h8
  obtain ⟨e, hu, h24⟩ := overW_wn hw
  have hpm := nf_perm ht (wn w).length (u := wn w) rfl (fun a ha => by rw [depP_length]; exact hu.2 a ha)
  have hf : ∀ c ∈ nf (depP pl) (wn w), c < pl.length := fun c hc => hu.2 c (hpm.mem_iff.1 hc)
  have hfl : (nf (depP pl) (wn w)).length = w.length := by rw [hpm.length_eq]; simp [wn]
  obtain ⟨e1, hrel⟩ := past_of h8 hf (by rw [hpm.length_eq]; exact h24)
  have hcl : (clo (edgR (depP pl) (nf (depP pl) (wn w)))).length = w.length := by rw [clo_length]; simp [edgR, hfl]
  have hpast : (gosW n pl w).past = conv (clo (edgR (depP pl) (nf (depP pl) (wn w)))) := e1.symm
  rw [hpast]
  refine walk (fun _ => false) mixed Go.Proofs.Tryd.func33 rfl rfl rfl (by kernel_rfl) rfl (by simp) (by kernel_rfl) ?_
  simp
  refine ⟨_, checkPosition_yes a b (alphaP pl) hx w hw' i hi, ?_⟩
  rw [show (alphaP pl).depends = depP pl from rfl]
  simp
  refine ⟨_, converse_spec _ _ hrel, ?_⟩
  have hcv := conv_length (clo (edgR (depP pl) (nf (depP pl) (wn w))))
  rw [hcl] at hcv
  simp [hcv, hi]
  omega
end Go.AM
