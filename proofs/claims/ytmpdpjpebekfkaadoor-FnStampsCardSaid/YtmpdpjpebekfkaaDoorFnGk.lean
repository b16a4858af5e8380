/-
  Labels: LabelsOf.
-/
import Derived.Test.YtmpdpjpebekfkaaDoorFnGj
set_option linter.unusedVariables false
set_option linter.unusedSimpArgs false
set_option maxRecDepth 100000
set_option maxHeartbeats 1600000
namespace Go.AM
open Go.Proofs
/-! Pasts lie below. -/
def GosLow (g : GosV) : Prop := ∀ i, i < g.f.length → ∀ j : Nat, tb (nth g.past i) j = true → j ≤ i
def LowM (m : Int) (k : Nat) : Prop := ∀ j : Nat, tb m j = true → j < k
theorem pastL_low {T : Nat → Nat → Bool} {L : Nat} (hL : L ≤ 24) : ∀ i, i < L → ∀ j : Nat, tb (nth (pastL T L) i) j = true → j ≤ i := by
  intro i
  induction i using Nat.strongRecOn with
  | _ i ih =>
    intro hi j h
    rw [pastL_nth T hi, tb_pr (M_pow1 (by omega)) j (fun k hk => pastL_M T i (by omega) k hk), tb_pow1 (by omega)] at h
    rcases h with h | ⟨k, hk, _, hb⟩
    · simp at h; omega
    · rw [pastL_nth T hk, ← pastL_nth T (show k < L by omega)] at hb
      have := ih k hk (by omega) j hb
      omega
theorem gosW_low {n : Int} {pl w ps : List Int} (h : gosCode n pl w ps = 0) : GosLow (gosW n pl w) := by
  intro i hi j hb
  exact pastL_low (gosW_ok h).len i hi j hb
theorem lastB_true (T : Nat → Bool) : ∀ k, lastB T k = -1 ∨ ∃ i : Nat, i < k ∧ lastB T k = i ∧ T i = true
  | 0 => .inl rfl
  | k + 1 => by
    rw [lastB]
    by_cases h : T k = true
    · rw [if_pos h]; exact .inr ⟨k, by omega, rfl, h⟩
    · rw [if_neg h]
      rcases lastB_true T k with e | ⟨i, h1, h2, h3⟩
      · exact .inl e
      · exact .inr ⟨i, by omega, h2, h3⟩
theorem low_last {g : GosV} {m : Int} {k : Nat} (h : LowM m k) (q : Nat) : lastOn g m q < k := by
  unfold lastOn
  rcases lastB_true (fun i => tb m i && tb (nth g.pl (natAt g.f i)) q) g.f.length with e | ⟨i, h1, h2, h3⟩
  · rw [e]; omega
  · rw [h2]
    simp only [Bool.and_eq_true] at h3
    have := h i h3.1
    omega
theorem low_past {g : GosV} (hl : GosLow g) {e : Int} {k : Nat} (h : e < k) (h' : e < g.f.length) : LowM (pastOn g e) k := by
  intro j hj
  unfold pastOn at hj
  split at hj
  · simp at hj
  · have := hl e.toNat (by omega) j hj
    omega
theorem low_full {k : Nat} (h : k < 63) : LowM (full k) k := by
  intro j hj
  rw [tb_full h] at hj
  simpa using hj
/-! The least number that a list lacks. -/
def mexFrom (U : List Int) : Nat → Nat → Nat
  | 0, c => c
  | m + 1, c => if (c : Int) ∈ U then mexFrom U m (c + 1) else c
def mexU (U : List Int) : Nat := mexFrom U (U.length + 1) 0
theorem mex_le {U : List Int} : ∀ m c, mexFrom U m c ≤ m + c
  | 0, c => by simp [mexFrom]
  | m + 1, c => by
    have := mex_le (U := U) m (c + 1)
    rw [mexFrom]; split <;> omega
theorem pigeon : ∀ (c : Nat) (U : List Int), (∀ j : Nat, j < c → (j : Int) ∈ U) → c ≤ U.length
  | 0, _, _ => by omega
  | c + 1, U, h => by
    have hc := h c (by omega)
    have hl := List.length_erase_of_mem hc
    have hp : 0 < U.length := List.length_pos_of_mem hc
    have := pigeon c (U.erase (c : Int)) fun j hj => (List.mem_erase_of_ne (by omega)).2 (h j (by omega))
    omega
/-! What labels are used. -/
def usedRow (labs row : List Int) : List Int := (row.filter fun v => decide (0 ≤ v)).map fun v => nth labs v.toNat
theorem usedRow_append (labs a b : List Int) : usedRow labs (a ++ b) = usedRow labs a ++ usedRow labs b := by simp [usedRow]
theorem usedRow_length (labs row : List Int) : (usedRow labs row).length ≤ row.length := by
  unfold usedRow
  rw [List.length_map]; exact List.length_filter_le _ _
theorem usedRow_take {labs row : List Int} {j : Nat} (h : j < row.length) : usedRow labs (row.take (j + 1)) = if 0 ≤ nth row j then usedRow labs (row.take j) ++ [nth labs (nth row j).toNat] else usedRow labs (row.take j) := by
  rw [List.take_succ_eq_append_getElem h, usedRow_append, ← nth_at h]
  by_cases e : 0 ≤ nth row j
  · rw [if_pos e]; simp [usedRow, e]
  · rw [if_neg e]; simp [usedRow, e]
def rowQ (g : GosV) (k q : Nat) : List Int := (secL g (viewOn g (full k) q)).flatten
def usedL (g : GosV) (labs : List Int) (k : Nat) (qs : List Nat) : List Int := qs.flatMap fun q => usedRow labs (rowQ g k q)
theorem usedL_snoc (g : GosV) (labs : List Int) (k : Nat) (qs : List Nat) (q : Nat) : usedL g labs k (qs ++ [q]) = usedL g labs k qs ++ usedRow labs (rowQ g k q) := by simp [usedL]
def labL (g : GosV) : Nat → List Int
  | 0 => []
  | k + 1 => labL g k ++ [(mexU (usedL g (labL g k) k (Bn (nth g.pl (natAt g.f k)))) : Int)]
@[simp] theorem labL_length (g : GosV) : ∀ k, (labL g k).length = k
  | 0 => rfl
  | k + 1 => by simp [labL, labL_length g k]
theorem flatten_len {c : Nat} : ∀ (rs : List (List Int)), (∀ r ∈ rs, r.length ≤ c) → rs.flatten.length ≤ c * rs.length
  | [], _ => by simp
  | r :: rs, h => by
    have h1 := h r (by simp)
    have h2 := flatten_len rs (fun r hr => h r (by simp [hr]))
    rw [List.flatten_cons, List.length_append, List.length_cons, Nat.mul_add, Nat.mul_one]
    omega
theorem rowQ_length {g : GosV} (hg : GosOk g) (k q : Nat) : (rowQ g k q).length ≤ 16 := by
  obtain ⟨h8, h1, h4, _⟩ := gos_facts hg
  have hl : (secL g (viewOn g (full k) q)).length ≤ 4 := by simp [secL]; omega
  have := flatten_len (c := 4) (secL g (viewOn g (full k) q)) fun r hr => by
    obtain ⟨q, _, rfl⟩ := List.mem_map.1 hr
    exact (latL_ok hg _).1
  unfold rowQ; omega
theorem usedL_length {g : GosV} (hg : GosOk g) (labs : List Int) (k : Nat) : ∀ qs : List Nat, (usedL g labs k qs).length ≤ 16 * qs.length
  | [] => by simp [usedL]
  | q :: qs => by
    have h1 := usedL_length hg labs k qs
    have h2 := usedRow_length labs (rowQ g k q)
    have h3 := rowQ_length hg k q
    simp only [usedL, List.flatMap_cons, List.length_append, List.length_cons] at h1 ⊢
    omega
theorem labL_ok {g : GosV} (hg : GosOk g) : ∀ k, ∀ x ∈ labL g k, I64 x
  | 0, x, h => by simp [labL] at h
  | k + 1, x, h => by
    rcases List.mem_append.1 h with h | h
    · exact labL_ok hg k x h
    · simp at h; subst h
      have h1 := mex_le (U := usedL g (labL g k) k (Bn (nth g.pl (natAt g.f k)))) ((usedL g (labL g k) k (Bn (nth g.pl (natAt g.f k)))).length + 1) 0
      have h2 := usedL_length hg (labL g k) k (Bn (nth g.pl (natAt g.f k)))
      have h3 := Bn_length (nth g.pl (natAt g.f k))
      unfold mexU I64; omega
/-- What the rows of second-hand news hold. -/
theorem sec_low {g : GosV} (hg : GosOk g) (hl : GosLow g) {k : Nat} (hk : k < g.f.length) (q : Nat) : ∀ r ∈ secL g (viewOn g (full k) q), ∀ x ∈ r, x < k := by
  have hlen := hg.len
  intro r hr x hx
  obtain ⟨p, _, rfl⟩ := List.mem_map.1 hr
  obtain ⟨s, _, rfl⟩ := List.mem_map.1 hx
  have e0 := low_last (g := g) (low_full (show k < 63 by omega)) q
  have b0 := lastOn_bd g (full k) q
  have l1 : LowM (viewOn g (full k) q) k := low_past hl e0 b0.2
  have e1 := low_last (g := g) l1 p
  have b1 := lastOn_bd g (viewOn g (full k) q) p
  exact low_last (low_past hl e1 b1.2) s
theorem full_isM {g : GosV} (hg : GosOk g) {k : Nat} (hk : k ≤ g.f.length) : isM g.f.length (full k) = true := by
  have hlen := hg.len
  exact isM_of (by omega) (full_M (n := k) (by omega) (by rw [full_eq (by omega)]; omega) (Int.le_refl _)) fun i hi => by rw [tb_full (by omega)]; simp; omega
theorem srows_frows (b : Bool) (rs : List (List Int)) : srows b rs = frows (rs.map fun r => (b, r)) := by simp [srows, frows]
theorem joinR_map (b : Bool) (rs : List (List Int)) : joinR (rs.map fun r => (b, r)) = rs.flatten := by
  unfold joinR
  rw [List.flatMap_map, List.flatMap_def]; simp
theorem labels_spec (a b c : Bool) (g : GosV) (hg : GosOk g) (hl : GosLow g) : ACalls1 Tryd.prog 68 [gosSl a b c g] (.own 1 true (ints (labL g g.f.length))) := by
  have hlen := hg.len
  obtain ⟨h8, h1, h4, hF⟩ := gos_facts hg
  have hcf := cnt_facts hg
  have hmem : ∀ y, M y → ACalls1 Tryd.prog 123 [iv y] (.own 1 true (ints (nats (Bn y)))) := fun y hy => members_spec y hy
  refine walk (fun t => t == 1 || t == 3027 || t == 3038 || t == 3039) mixed Go.Proofs.Tryd.func68 rfl rfl rfl (by kernel_rfl) rfl (by simp) (by kernel_rfl) ?_
  simp
  refine awp_loop2 [1, 14, 15] [] (fun k : Nat => [(3, .ref 100), (16, iv k)]) (fun k => [(100, .own 1 true (ints (labL g k)))]) (fun k => k ≤ g.f.length) (fun k => g.f.length - k) 0 (weak_mk (fun t => if t = 100 then some 12 else some t) (by simp) (by simp [labL]) rfl) (by simp) ?_
  intro k hk
  by_cases hkl : k < g.f.length
  · obtain ⟨f1, f2, f3⟩ := hF k hkl
    have hBi := Bn_lt (y := nth g.pl (natAt g.f k)) (N := g.n.toNat) (hcf k hkl)
    have hBl := Bn_length (nth g.pl (natAt g.f k))
    have hls : labL g (k + 1) = labL g k ++ [(mexU (usedL g (labL g k) k (Bn (nth g.pl (natAt g.f k)))) : Int)] := rfl
    have hll := labL_length g k
    have hsl := fun q => sec_low hg hl hkl q
    generalize labL g k = labs at *
    generalize hB : Bn (nth g.pl (natAt g.f k)) = B at *
    simp [hkl, f1, f3]
    refine ⟨_, hmem _ f2, ?_⟩
    rw [hB]
    simp
    refine awp_loop2 [1, 3, 4, 14, 15, 16, 27, 28] [100] (fun r : Nat => [(6, .ref 101), (29, iv r)]) (fun r => [(101, .own 1 true (ints (usedL g labs k (B.take r))))]) (fun r => r ≤ B.length) (fun r => B.length - r) 0 (weak_mk (fun t => if t = 101 then some 21 else some t) (by simp) (by simp [usedL]) rfl) (by simp) ?_
    intro r hr
    have hUl := usedL_length hg labs k (B.take r)
    have hBt : (B.take r).length ≤ 63 := by rw [List.length_take]; omega
    by_cases hrl : r < B.length
    · have hnr := nats_nth hrl
      have hcl := (hBi _ (natAt_mem hrl)).1
      have hus : usedL g labs k (B.take (r + 1)) = usedL g labs k (B.take r) ++ usedRow labs (rowQ g k (natAt B r)) := by
        rw [List.take_succ_eq_append_getElem hrl, ← natAt_at hrl, usedL_snoc]
      have hRl := rowQ_length hg k (natAt B r)
      have hRlow : ∀ x ∈ rowQ g k (natAt B r), x < k := fun x hx => by
        obtain ⟨row, h1, h2⟩ := List.mem_flatten.1 hx
        exact hsl _ row h1 x h2
      have hcon : ACalls1 Tryd.prog 124 [.sl 1 true (srows true (secL g (viewOn g (full k) (natAt B r))))] (.own 1 false (ints (rowQ g k (natAt B r)))) := by
        rw [srows_frows]
        have := Concat_spec true ((secL g (viewOn g (full k) (natAt B r))).map fun r => (true, r)) (by simp [secL]; omega) (by rw [joinR_map]; unfold rowQ at hRl; omega)
        rw [joinR_map] at this; exact this
      generalize usedL g labs k (B.take r) = U at *
      generalize hR : rowQ g k (natAt B r) = R at *
      simp [hrl, hnr]
      refine ⟨_, one_spec k (by omega), ?_⟩
      simp
      refine ⟨_, secondIn_spec a b c g hg (full k) (full_isM hg hk) (natAt B r) (by omega), ?_⟩
      simp
      refine ⟨_, hcon, ?_⟩
      simp
      refine awp_loop2 [1, 3, 4, 14, 15, 16, 27, 28, 29, 39, 40] [100] (fun j : Nat => [(6, .ref 101), (41, iv j)]) (fun j => [(101, .own 1 true (ints (U ++ usedRow labs (R.take j))))]) (fun j => j ≤ R.length) (fun j => R.length - j) 0 (weak_mk some (by simp) (by simp [usedRow]) rfl) (by simp) ?_
      intro j hj
      by_cases hjl : j < R.length
      · have hut := usedRow_take (labs := labs) hjl
        have hlow := hRlow _ (nth_mem hjl)
        have huu := usedRow_length labs (R.take j)
        have hRt : (R.take j).length ≤ 16 := by rw [List.length_take]; omega
        generalize usedRow labs (R.take j) = V at *
        by_cases h0 : 0 ≤ nth R j
        · obtain ⟨v, hv⟩ := Int.eq_ofNat_of_zero_le h0
          rw [hv] at hut hlow
          rw [if_pos (by omega)] at hut
          simp [hjl, hv, hll, show v < k by omega, wrap_id ((j : Int) + 1) (by omega) (by omega)]
          repeat (refine And.intro (by omega) ?_)
          refine Round.mk (j + 1) (weak_mk (fun t => if t = 101 then some 53 else some t) (by simp) ?_ rfl) hjl (by omega)
          simp [hut]
        · rw [if_neg h0] at hut
          simp [hjl, h0, wrap_id ((j : Int) + 1) (by omega) (by omega)]
          exact Round.mk (j + 1) (weak_mk some (by simp) (by simp [hut]) rfl) hjl (by omega)
      · obtain rfl : j = R.length := by omega
        simp [wrap_id ((r : Int) + 1) (by omega) (by omega)]
        exact Round.mk (r + 1) (weak_mk some (by simp) (by simp [hus]) rfl) hrl (by omega)
    · obtain rfl : r = B.length := by omega
      rw [List.take_length] at hUl
      generalize hU : usedL g labs k B = U at *
      simp [hU]
      refine awp_loop2 [1, 3, 6, 14, 15, 16] [100, 101] (fun c : Nat => [(11, iv c)]) (fun _ => []) (fun c => c ≤ U.length ∧ mexFrom U (U.length + 1 - c) c = mexU U ∧ ∀ j : Nat, j < c → (j : Int) ∈ U) (fun c => U.length + 1 - c) 0 (weak_mk some (by simp) (by simp) rfl) ⟨by simp, rfl, fun j hj => by omega⟩ ?_
      rintro c ⟨hc1, hc2, hc3⟩
      simp
      refine ⟨_, Contains_spec _ U (by unfold Fits; omega) c, ?_⟩
      obtain ⟨f, hf⟩ : ∃ f, U.length + 1 - c = f + 1 := ⟨U.length - c, by omega⟩
      rw [hf, mexFrom] at hc2
      by_cases hin : (c : Int) ∈ U
      · rw [if_pos hin] at hc2
        have hc3' : ∀ j : Nat, j < c + 1 → (j : Int) ∈ U := fun j hj => by
          by_cases e : j = c
          · subst e; exact hin
          · exact hc3 j (by omega)
        have := pigeon (c + 1) U hc3'
        simp [hin, wrap_id ((c : Int) + 1) (by omega) (by omega)]
        exact Round.mk (c + 1) (weak_mk some (by simp) (by simp) rfl) ⟨this, by rw [show U.length + 1 - (c + 1) = f by omega]; exact hc2, hc3'⟩ (by omega)
      · rw [if_neg hin] at hc2
        simp [hin, wrap_id ((k : Int) + 1) (by omega) (by omega)]
        repeat (refine And.intro (by omega) ?_)
        refine Round.mk (k + 1) (weak_mk (fun t => if t = 100 then some 64 else some t) (by simp) ?_ rfl) hkl (by omega)
        simp [hls, ← hc2]
  · obtain rfl : k = g.f.length := by omega
    simp
theorem Bn_range {g : GosV} (hg : GosOk g) {k : Nat} (hk : k < g.f.length) : Bn (nth g.pl (natAt g.f k)) = (List.range g.n.toNat).filter fun q => tIn g q k := by
  obtain ⟨h8, h1, h4, hF⟩ := gos_facts hg
  unfold Bn
  exact filter_range_le (N := 63) (by omega) (fun e he => cnt_facts hg k hk e he)
theorem l15Labels_spec (a b c : Bool) (g : GosV) (hg : GosOk g) (hl : GosLow g) : ACalls1 Tryd.prog 70 [gosSl a b c g] (.own 1 true (ints (labL g g.f.length))) := by
  have hlen := hg.len
  obtain ⟨h8, h1, h4, hF⟩ := gos_facts hg
  have hcf := cnt_facts hg
  obtain ⟨N, hN⟩ := Int.eq_ofNat_of_zero_le (show 0 ≤ g.n by omega)
  have hN' : g.n.toNat = N := by omega
  refine walk (fun t => t == 1 || t == 3043) mixed Go.Proofs.Tryd.func70 rfl rfl rfl (by kernel_rfl) rfl (by simp) (by kernel_rfl) ?_
  simp
  refine awp_loop2 [1] [] (fun k : Nat => [(3, .ref 100), (4, iv k)]) (fun k => [(100, .own 1 true (ints (labL g k)))]) (fun k => k ≤ g.f.length) (fun k => g.f.length - k) 0 (weak_mk (fun t => if t = 100 then some 11 else some t) (by simp) (by simp [labL]) rfl) (by simp) ?_
  intro k hk
  by_cases hkl : k < g.f.length
  · obtain ⟨f1, f2, f3⟩ := hF k hkl
    have hls : labL g (k + 1) = labL g k ++ [(mexU (usedL g (labL g k) k (Bn (nth g.pl (natAt g.f k)))) : Int)] := rfl
    rw [Bn_range hg hkl, hN'] at hls
    have hll := labL_length g k
    have hsl := fun q => sec_low hg hl hkl q
    generalize labL g k = labs at *
    simp [hkl]
    refine awp_loop2 [1, 3, 4] [100] (fun q : Nat => [(5, .ref 101), (6, iv q)]) (fun q => [(101, .own 1 true (ints (usedL g labs k ((List.range q).filter fun q => tIn g q k))))]) (fun q => q ≤ N) (fun q => N - q) 0 (weak_mk (fun t => if t = 101 then some 19 else some t) (by simp) (by simp [usedL]) rfl) (by simp) ?_
    intro q hq
    have hUl := usedL_length hg labs k ((List.range q).filter fun q => tIn g q k)
    have hfl := List.length_filter_le (fun q => tIn g q k) (List.range q)
    rw [List.length_range] at hfl
    by_cases hql : q < N
    · have hus : usedL g labs k ((List.range (q + 1)).filter fun q => tIn g q k) = if tIn g q k = true then usedL g labs k ((List.range q).filter fun q => tIn g q k) ++ usedRow labs (rowQ g k q) else usedL g labs k ((List.range q).filter fun q => tIn g q k) := by
        rw [List.range_succ, List.filter_append]
        by_cases ht : tIn g q k = true
        · rw [if_pos ht, ← usedL_snoc]; simp [ht]
        · rw [if_neg ht]; simp [ht]
      have hRl := rowQ_length hg k q
      generalize usedL g labs k ((List.range q).filter fun q => tIn g q k) = U at *
      simp [hql, hN, f1, f3, hkl]
      repeat (rw [exE_eq]; simp [hql, hN, f1, f3, hkl])
      refine ⟨_, l01Bit_spec _ f2 q (by omega), ?_⟩
      cases hb : tb (nth g.pl (natAt g.f k)) q
      · rw [if_neg (by simp [tIn, hb])] at hus
        simp [wrap_id ((q : Int) + 1) (by omega) (by omega)]
        exact Round.mk (q + 1) (weak_mk some (by simp) (by simp [hus]) rfl) hql (by omega)
      · rw [if_pos (by simp [tIn, hb])] at hus
        have hV : ACalls1 Tryd.prog 131 [.agg [iv N, .sl 1 a (ints g.pl), .sl 1 b (ints (nats g.f)), .sl 1 c (ints g.past)], iv k, iv q] (iv (viewOn g (full k) q)) := by
          rw [← hN]; exact l15View_spec a b c g hg k hk q (by omega)
        have hS : ACalls1 Tryd.prog 130 [.agg [iv N, .sl 1 a (ints g.pl), .sl 1 b (ints (nats g.f)), .sl 1 c (ints g.past)], iv (viewOn g (full k) q)] (.own 1 true (orows true (secL g (viewOn g (full k) q)))) := by
          rw [← hN]; exact l15Second_spec a b c g hg _ (viewOn_M hg _ _)
        have hsl' := hsl q
        have hSl : (secL g (viewOn g (full k) q)).length = N := by simp [secL, hN']
        have hSr : ∀ i, i < N → (nthR (secL g (viewOn g (full k) q)) i).length = N := fun i hi => by
          rw [nthR_at (by omega)]; simp [secL, hN']
        unfold rowQ at hus
        generalize secL g (viewOn g (full k) q) = R at *
        simp
        refine ⟨_, hV, ?_⟩
        simp
        refine ⟨_, hS, ?_⟩
        simp
        refine awp_loop2 [1, 3, 4, 6, 7] [100] (fun i : Nat => [(5, .ref 101), (8, iv i)]) (fun i => [(101, .own 1 true (ints (U ++ usedRow labs ((R.take i).flatten))))]) (fun i => i ≤ N) (fun i => N - i) 0 (weak_mk some (by simp) (by simp [usedRow]) rfl) (by simp) ?_
        intro i hi
        have hfi : ((R.take i).flatten).length ≤ N * i := by
          have := flatten_len (c := N) (R.take i) fun r hr => by
            obtain ⟨s, hs, rfl⟩ := List.mem_iff_getElem.1 (List.mem_of_mem_take hr)
            have := hSr s (by omega)
            rw [nthR_at hs] at this; omega
          rw [List.length_take] at this
          have e : min i R.length = i := by omega
          rw [e] at this; exact this
        have hN4 : N * i ≤ 4 * 4 := Nat.mul_le_mul (by omega) (by omega)
        have hUi := usedRow_length labs ((R.take i).flatten)
        by_cases hil : i < N
        · have hri := hSr i hil
          have hrm : ∀ x ∈ nthR R i, x < k := hsl' _ (by rw [nthR_at (by omega)]; exact List.getElem_mem _)
          have hfs : usedRow labs ((R.take (i + 1)).flatten) = usedRow labs ((R.take i).flatten) ++ usedRow labs (nthR R i) := by
            rw [List.take_succ_eq_append_getElem (by omega), List.flatten_append, usedRow_append, nthR_at (by omega)]; simp
          generalize usedRow labs ((R.take i).flatten) = V at *
          generalize hRi : nthR R i = row at *
          simp [hil, hSl]
          refine awp_loop2 [1, 3, 4, 6, 7, 8] [100] (fun j : Nat => [(5, .ref 101), (9, iv j)]) (fun j => [(101, .own 1 true (ints (U ++ V ++ usedRow labs (row.take j))))]) (fun j => j ≤ N) (fun j => N - j) 0 (weak_mk some (by simp) (by simp [usedRow]) rfl) (by simp) ?_
          intro j hj
          by_cases hjl : j < N
          · have hut := usedRow_take (labs := labs) (show j < row.length by omega)
            have hlow := hrm _ (nth_mem (show j < row.length by omega))
            have huu := usedRow_length labs (row.take j)
            have hRt : (row.take j).length ≤ 4 := by rw [List.length_take]; omega
            generalize usedRow labs (row.take j) = W at *
            by_cases h0 : 0 ≤ nth row j
            · obtain ⟨v, hv⟩ := Int.eq_ofNat_of_zero_le h0
              rw [hv] at hut hlow
              rw [if_pos (by omega)] at hut
              simp [hil, hSl, hRi, hri, hjl, hv, hll, show v < k by omega, wrap_id ((j : Int) + 1) (by omega) (by omega)]
              repeat (refine And.intro (by omega) ?_)
              refine Round.mk (j + 1) (weak_mk (fun t => if t = 101 then some 79 else some t) (by simp) ?_ rfl) hjl (by omega)
              simp [hut]
            · rw [if_neg h0] at hut
              simp [hil, hSl, hRi, hri, hjl, h0, wrap_id ((j : Int) + 1) (by omega) (by omega)]
              exact Round.mk (j + 1) (weak_mk some (by simp) (by simp [hut]) rfl) hjl (by omega)
          · obtain rfl : j = N := by omega
            simp [hil, hSl, hRi, hri, wrap_id ((i : Int) + 1) (by omega) (by omega)]
            exact Round.mk (i + 1) (weak_mk some (by simp) (by simp [hfs, List.take_of_length_le (Nat.le_of_eq hri)]) rfl) hil (by omega)
        · obtain rfl : i = N := by omega
          simp [hSl, wrap_id ((q : Int) + 1) (by omega) (by omega)]
          exact Round.mk (q + 1) (weak_mk some (by simp) (by simp [hus, List.take_of_length_le (Nat.le_of_eq hSl)]) rfl) hql (by omega)
    · obtain rfl : q = N := by omega
      generalize hU : usedL g labs k ((List.range q).filter fun q => tIn g q k) = U at *
      simp [hN]
      refine awp_loop2 [1, 3, 4, 5] [100, 101] (fun c : Nat => [(10, iv c)]) (fun _ => []) (fun c => c ≤ U.length ∧ mexFrom U (U.length + 1 - c) c = mexU U ∧ ∀ j : Nat, j < c → (j : Int) ∈ U) (fun c => U.length + 1 - c) 0 (weak_mk some (by simp) (by simp) rfl) ⟨by simp, rfl, fun j hj => by omega⟩ ?_
      rintro c ⟨hc1, hc2, hc3⟩
      simp
      refine ⟨_, l01Has_spec _ U (by unfold Fits; omega) c, ?_⟩
      obtain ⟨f, hf⟩ : ∃ f, U.length + 1 - c = f + 1 := ⟨U.length - c, by omega⟩
      rw [hf, mexFrom] at hc2
      by_cases hin : (c : Int) ∈ U
      · rw [if_pos hin] at hc2
        have hc3' : ∀ j : Nat, j < c + 1 → (j : Int) ∈ U := fun j hj => by
          by_cases e : j = c
          · subst e; exact hin
          · exact hc3 j (by omega)
        have := pigeon (c + 1) U hc3'
        simp [hin, wrap_id ((c : Int) + 1) (by omega) (by omega)]
        exact Round.mk (c + 1) (weak_mk some (by simp) (by simp) rfl) ⟨this, by rw [show U.length + 1 - (c + 1) = f by omega]; exact hc2, hc3'⟩ (by omega)
      · rw [if_neg hin] at hc2
        simp [hin, wrap_id ((k : Int) + 1) (by omega) (by omega)]
        repeat (refine And.intro (by omega) ?_)
        refine Round.mk (k + 1) (weak_mk (fun t => if t = 100 then some 88 else some t) (by simp) ?_ rfl) hkl (by omega)
        simp [hls, ← hc2]
  · obtain rfl : k = g.f.length := by omega
    simp
def labelsOfV (n : Int) (pl w : List Int) : List Int × Int := if gosCode n pl w [] = 0 then (labL (gosW n pl w) (gosW n pl w).f.length, 0) else ([], gosCode n pl w [])
theorem LabelsOf_fits (n : Int) (hn : I64 n) (pl : List Int) (hpl : ListOk pl) (w : List Int) (hw : ListOk w) : ListOk (labelsOfV n pl w).1 := by
  unfold labelsOfV
  split
  · rename_i hc
    have hg := gosW_ok hc
    have hl := hg.len
    exact ⟨by unfold Fits; simp; omega, labL_ok hg _⟩
  · exact ⟨by simp [Fits], by simp⟩
theorem LabelsOf_spec (n : Int) (hn : I64 n) (a : Bool) (pl : List Int) (hpl : ListOk pl) (b : Bool) (w : List Int) (hw : ListOk w) : ACalls1 Tryd.prog 20 [iv n, .sl 1 a (ints pl), .sl 1 b (ints w)] (.tup [.own 1 false (ints (labelsOfV n pl w).1), iv (labelsOfV n pl w).2]) := by
  refine walk (fun _ => false) mixed Go.Proofs.Tryd.func20 rfl rfl rfl (by kernel_rfl) rfl (by simp) (by kernel_rfl) ?_
  simp
  unfold labelsOfV
  by_cases hc : gosCode n pl w [] = 0
  · refine ⟨_, checkNil_yes a b n pl w hc, ?_⟩
    simp [hc]
    refine ⟨_, labels_spec a true true (gosW n pl w) (gosW_ok hc) (gosW_low hc), ?_⟩
    simp
  · refine ⟨_, checkNil_no a b n pl w hpl.1 hw.1 hc, ?_⟩
    simp [hc]
theorem specLabelsOf_spec (n : Int) (hn : I64 n) (a : Bool) (pl : List Int) (hpl : ListOk pl) (b : Bool) (w : List Int) (hw : ListOk w) : ACalls1 Tryd.prog 21 [iv n, .sl 1 a (ints pl), .sl 1 b (ints w)] (.tup [.own 1 false (ints (labelsOfV n pl w).1), iv (labelsOfV n pl w).2]) := by
  refine walk (fun t => t == 3014) mixed Go.Proofs.Tryd.func21 rfl rfl rfl (by kernel_rfl) rfl (by simp) (by kernel_rfl) ?_
  simp
  unfold labelsOfV
  by_cases hc : gosCode n pl w [] = 0
  · refine ⟨_, l15Read_yes a b n hn pl w hc, ?_⟩
    simp [hc]
    refine ⟨_, l15Labels_spec a true false (gosW n pl w) (gosW_ok hc) (gosW_low hc), ?_⟩
    simp
  · refine ⟨_, l15Read_no a b n hn pl w hpl.1 hw.1 (by rw [readCode_eq]; exact hc), ?_⟩
    rw [readCode_eq]
    simp [hc]
end Go.AM
