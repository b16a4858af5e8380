/-
  The law laws.FnAfterConfigurations: for every input it returns true, and the input reads as it did, where the table math/bits.deBruijn64tab holds what the program lays: the statement Rows.FnAfterConfigurationsCardSaid.
  The condition on the table is tied to the text by the given tie; the project is a pruned copy.
-/
import Derived.Test.YthabclhldlikfaaGreatDoorRows
import Derived.Test.YthabclhldlikfaaGreatDoorCards
import Derived.Test.YthabclhldlikfaaGreatDoorTie
import Derived.Test.YthabclhldlikfaaGreatDoorAmRow
import Derived.Test.YthabclhldlikfaaGreatDoorFnVd
set_option linter.unusedVariables false
set_option linter.unusedSimpArgs false
set_option maxRecDepth 100000
set_option maxHeartbeats 1600000
namespace Go.AM
open Go.Proofs
/-- What a pair of a list tells of two events. -/
def foundP (x : StrucV) (e f : Nat) (r : List Int) : Bool := (ibits .and .i64 (histOf x e) (pow1 (nth r 0)) != 0 && ibits .and .i64 (histOf x f) (pow1 (nth r 1)) != 0) || (ibits .and .i64 (histOf x e) (pow1 (nth r 1)) != 0 && ibits .and .i64 (histOf x f) (pow1 (nth r 0)) != 0)
theorem anyR_take {rs : List (List Int)} {p : List Int → Bool} {k : Nat} (h : k < rs.length) : (rs.take (k + 1)).any p = ((rs.take k).any p || p (nthR rs k)) := by
  rw [List.take_succ_eq_append_getElem h, List.any_append, nthR_at h]; simp
theorem and_pow1 {m : Int} (hm : M m) {i : Nat} (hi : i < 63) (h : tb m i = true) : (ibits .and .i64 m (pow1 i) != 0) = true := by
  rw [bne_iff_ne]
  exact (and_ne_iff hm (M_pow1 (by omega))).2 ⟨i, h, by rw [tb_pow1 (by omega)]; simp⟩
theorem found_of {x : StrucV} (hs : isStructureV x = true) {e f : Nat} (he : e < x.labels.length) (hf : f < x.labels.length) {g h : Nat} (hg : g < 63) (hh : h < 63)
    (hq : (tb (histOf x e) g = true ∧ tb (histOf x f) h = true) ∨ (tb (histOf x e) h = true ∧ tb (histOf x f) g = true)) : foundP x e f [(g : Int), (h : Int)] = true := by
  have me := (hist_M hs he).1
  have mf := (hist_M hs hf).1
  show ((ibits .and .i64 (histOf x e) (pow1 g) != 0 && ibits .and .i64 (histOf x f) (pow1 h) != 0) || (ibits .and .i64 (histOf x e) (pow1 h) != 0 && ibits .and .i64 (histOf x f) (pow1 g) != 0)) = true
  rcases hq with ⟨a, b⟩ | ⟨a, b⟩
  · rw [and_pow1 me hg a, and_pow1 mf hh b]; rfl
  · rw [and_pow1 me hh a, and_pow1 mf hg b]; simp
theorem shl_pow {g : Nat} (h : g < 63) : IntKind.i64.wrap (2 ^ min g 64) = pow1 g := by
  unfold pow1
  rw [if_pos (by omega), Int.toNat_natCast, Nat.min_eq_left (by omega)]
theorem setCode_of {x : StrucV} (hs : isStructureV x = true) {c : Int} (hc : isM x.labels.length c = true) : setCode x c = 0 := by
  unfold setCode; simp [hs, hc]
theorem FnAfterConfigurations_spec (nn : Bool) (l : List Int) (hl : CodeIn l) : ACalls1 Tryz.prog 5 [.sl 1 nn (bys l)] (bv true) := by
  refine walk (fun t => t == 7035 || t == 3065) mixed Go.Proofs.Tryz.func5 rfl rfl rfl (by kernel_rfl) rfl (by simp) (by kernel_rfl) ?_
  simp
  refine ⟨_, big_spec nn l, ?_⟩
  simp
  intro hb
  refine ⟨_, DrawAfterConfiguration_spec nn l (bysOk_of hl (by omega)), ?_⟩
  rintro _ _ ⟨x, c, hx, hc, rfl, rfl⟩
  have hxo : StructureOk x := ⟨⟨by have := hx.b; unfold Fits; omega, hx.bi⟩, ⟨by have := hx.c; unfold Fits; omega, hx.ci⟩, ⟨by have := hx.d; unfold Fits; omega, hx.di⟩⟩
  simp
  refine ⟨_, AfterConfiguration_spec _ _ _ x hxo c hc, ?_⟩
  simp
  refine ⟨_, specAfterConfiguration_spec _ _ _ x hxo c hc, ?_⟩
  simp
  refine ⟨_, ConfigurationsOf_spec _ _ _ x hxo, ?_⟩
  simp
  refine ⟨_, MaximalConfigurations_spec _ _ _ x hxo, ?_⟩
  simp
  refine ⟨_, ImmediateClashes_spec _ _ _ x hxo, ?_⟩
  simp
  refine ⟨_, IsStructure_spec _ _ _ x hxo, ?_⟩
  simp
  refine ⟨_, specIsStructure_spec _ _ _ x hxo, ?_⟩
  simp
  refine ⟨_, IsStructure_spec _ _ _ x hxo, ?_⟩
  by_cases hs : isStructureV x = true
  · obtain ⟨g1, g2, g3⟩ := struc_len hs
    have e3 : immediateClashesV x = (rowsU x x.labels.length, 0) := by unfold immediateClashesV; rw [if_pos hs]
    by_cases hle : (allConf x).length ≤ 4096
    · have e1 : configurationsOfV x = (allConf x, 0) := by unfold configurationsOfV; rw [if_pos hs, if_pos hle]
      have e2 : maximalConfigurationsV x = ((allConf x).filter (isMaxC x), 0) := by unfold maximalConfigurationsV; rw [e1]; rfl
      have hU := rowsU_length x g1 x.labels.length
      by_cases h0 : maskCode x c = 0
      · have e4 : afterConfigurationV x c = (aftS x c, 0) := by unfold afterConfigurationV; rw [if_pos h0]; rfl
        have hcount := left_count h0
        have hle2 : holdsN (allConf x) c ≤ (allConf x).length := holdsN_le _ _
        have hts : isStructureV (aftS x c) = true := aft_struc hs (by have := leftL_length x c; omega) leftL_lt
        have hto : StructureOk (aftS x c) := by have := AfterConfiguration_fits x hxo c hc; rw [e4] at this; exact this
        have e5 : configurationsOfV (aftS x c) = (allConf (aftS x c), 0) := by unfold configurationsOfV; rw [if_pos hts, if_pos (by omega)]
        simp [hs, e1, e2, e3, e4]
        refine ⟨_, ConfigurationsOf_spec _ _ _ (aftS x c) hto, ?_⟩
        rw [e5]
        simp
        refine ⟨_, IsStructure_spec _ _ _ (aftS x c) hto, ?_⟩
        simp [hts]
        refine ⟨_, holds9_spec _ (allConf x) (by omega) c, ?_⟩
        simp [hcount]
        refine awp_loop2 [3, 9, 11, 13] [3, 56000, 61000] (fun k : Nat => [(17, iv k)]) (fun _ => []) (fun k => k ≤ (rowsU x x.labels.length).length) (fun k => (rowsU x x.labels.length).length - k) 0 (weak_mk some (by simp) (by simp) rfl) (by simp) ?_
        intro k hk
        by_cases hlk : k < (rowsU x x.labels.length).length
        · obtain ⟨e, f, hef, hfn, hr⟩ := rowsU_mem (nthR_mem hlk)
          have n0 : nth [(e : Int), (f : Int)] 0 = e := rfl
          have n1 : nth [(e : Int), (f : Int)] 1 = f := rfl
          have c1 : ¬ (e : Int) < 0 := by omega
          have c2 : ¬ (f : Int) ≤ (e : Int) := by omega
          have c3 : ¬ ((x.labels.length : Nat) : Int) ≤ (f : Int) := by omega
          simp [hlk, hr, n0, n1, c1, c2, c3]
          repeat (rw [exE_eq]; simp [hlk, hr, n0, n1, c1, c2, c3])
          try simp [wrap_id ((k : Int) + 1) (by omega) (by omega)]
          exact Round.mk (k + 1) (weak_mk some (by simp) (by simp) rfl) hlk (by omega)
        · obtain rfl : k = (rowsU x x.labels.length).length := by omega
          simp
          refine awp_loop2 [3, 9, 11, 13] [3, 56000, 61000] (fun k : Nat => [(18, iv k)]) (fun _ => []) (fun k => k ≤ (allConf x).length) (fun k => (allConf x).length - k) 0 (weak_mk some (by simp) (by simp) rfl) (by simp) ?_
          intro k hk
          by_cases hlk : k < (allConf x).length
          · have hmem := nth_mem hlk
            obtain ⟨cm1, cm2⟩ := (mem_allConf (by omega)).1 hmem
            have hsc : setCode x (nth (allConf x) k) = 0 := setCode_of hs cm1
            have hI : I64 (nth (allConf x) k) := by
              have := (isM_spec (by omega) cm1).1
              unfold I64
              have h1 := this.1
              have h2 := this.2
              omega
            have hcf := IsConfiguration_spec false false false x hxo (nth (allConf x) k) hI
            rw [show isConfigurationV x (nth (allConf x) k) = (true, 0) by unfold isConfigurationV; rw [if_pos hsc, cm2]] at hcf
            have hhi := hasInt_spec false ((allConf x).filter (isMaxC x)) (by have := List.length_filter_le (isMaxC x) (allConf x); omega) (nth (allConf x) k)
            have hho := holds9_spec false (allConf x) (by omega) (nth (allConf x) k)
            have hone := holds_one hs hmem
            have hdec : decide (nth (allConf x) k ∈ (allConf x).filter (isMaxC x)) = (((holdsN (allConf x) (nth (allConf x) k) : Nat) : Int) == 1) := by
              rw [Bool.eq_iff_iff, decide_eq_true_eq, beq_iff_eq, List.mem_filter]
              constructor
              · intro h; have := hone.2 h.2; omega
              · intro h; exact ⟨hmem, hone.1 (by omega)⟩
            rw [hdec] at hhi
            simp [hlk, show k + 1 ≤ (allConf x).length from hlk]
            repeat (rw [exE_eq]; simp [hlk, show k + 1 ≤ (allConf x).length from hlk])
            refine ⟨_, hcf, ?_⟩
            simp [hlk, show k + 1 ≤ (allConf x).length from hlk]
            repeat (rw [exE_eq]; simp [hlk, show k + 1 ≤ (allConf x).length from hlk])
            refine ⟨_, hhi, ?_⟩
            simp [hlk, show k + 1 ≤ (allConf x).length from hlk]
            repeat (rw [exE_eq]; simp [hlk, show k + 1 ≤ (allConf x).length from hlk])
            refine ⟨_, hho, ?_⟩
            simp [hlk, show k + 1 ≤ (allConf x).length from hlk]
            repeat (rw [exE_eq]; simp [hlk, show k + 1 ≤ (allConf x).length from hlk])
            try simp [wrap_id ((k : Int) + 1) (by omega) (by omega)]
            exact Round.mk (k + 1) (weak_mk some (by simp) (by simp) rfl) hlk (by omega)
          · obtain rfl : k = (allConf x).length := by omega
            simp
            refine awp_loop2 [3, 13] [3] (fun e : Nat => [(21, iv e)]) (fun _ => []) (fun e => e ≤ x.labels.length) (fun e => x.labels.length - e) 0 (weak_mk some (by simp) (by simp) rfl) (by simp) ?_
            intro e he
            by_cases hle1 : e < x.labels.length
            · simp [hle1]
              refine awp_loop2 [3, 13, 21] [3] (fun f : Nat => [(22, iv f)]) (fun _ => []) (fun f => f ≤ x.labels.length) (fun f => x.labels.length - f) 0 (weak_mk some (by simp) (by simp) rfl) (by simp) ?_
              intro f hf
              by_cases hlf : f < x.labels.length
              · have heb : e < x.below.length := by omega
                have hfb : f < x.below.length := by omega
                have hec : e < x.clash.length := by omega
                simp [hlf]
                refine awp_loop2 [3, 13, 21, 22] [3] (fun q : Nat => [(24, iv q), (23, bv (((rowsU x x.labels.length).take q).any (foundP x e f)))]) (fun _ => []) (fun q => q ≤ (rowsU x x.labels.length).length) (fun q => (rowsU x x.labels.length).length - q) 0 (weak_mk some (by simp) (by simp) rfl) (by simp) ?_
                intro q hq
                by_cases hlq : q < (rowsU x x.labels.length).length
                · obtain ⟨g, h, hgh, hhn, hr⟩ := rowsU_mem (nthR_mem hlq)
                  have hst := anyR_take (p := foundP x e f) hlq
                  have n0 : nth [(g : Int), (h : Int)] 0 = g := rfl
                  have n1 : nth [(g : Int), (h : Int)] 1 = h := rfl
                  have hfp : foundP x e f (nthR (rowsU x x.labels.length) q) = ((ibits .and .i64 (histOf x e) (pow1 g) != 0 && ibits .and .i64 (histOf x f) (pow1 h) != 0) || (ibits .and .i64 (histOf x e) (pow1 h) != 0 && ibits .and .i64 (histOf x f) (pow1 g) != 0)) := by rw [hr]; rfl
                  rw [hfp] at hst
                  generalize hB : ((rowsU x x.labels.length).take q).any (foundP x e f) = B at *
                  have ha : ibits .or .i64 (nth x.below e) (pow1 e) = histOf x e := rfl
                  have hb2 : ibits .or .i64 (nth x.below f) (pow1 f) = histOf x f := rfl
                  have sg := shl_pow (g := g) (by omega)
                  have sh := shl_pow (g := h) (by omega)
                  have se := shl_pow (g := e) (by omega)
                  have sf := shl_pow (g := f) (by omega)
                  generalize histOf x e = He at *
                  generalize histOf x f = Hf at *
                  cases B
                  · by_cases A1 : ibits .and .i64 He (pow1 g) = 0 <;> by_cases A2 : ibits .and .i64 Hf (pow1 h) = 0 <;> by_cases A3 : ibits .and .i64 He (pow1 h) = 0 <;> by_cases A4 : ibits .and .i64 Hf (pow1 g) = 0 <;>
                      (simp [hlq, hr, n0, n1, heb, hfb, show e + 1 ≤ x.below.length from heb, show f + 1 ≤ x.below.length from hfb, sg, sh, se, sf, ha, hb2, A1, A2, A3, A4]
                       repeat (rw [exE_eq]; simp [hlq, hr, n0, n1, heb, hfb, show e + 1 ≤ x.below.length from heb, show f + 1 ≤ x.below.length from hfb, sg, sh, se, sf, ha, hb2, A1, A2, A3, A4])
                       try simp [wrap_id ((q : Int) + 1) (by omega) (by omega)]
                       exact Round.mk (q + 1) (weak_mk some (by simp [hst, A1, A2, A3, A4]) (by simp) rfl) hlq (by omega))
                  · simp [hlq, hr, n0, n1, heb, hfb, show e + 1 ≤ x.below.length from heb, show f + 1 ≤ x.below.length from hfb, sg, sh, se, sf, ha, hb2]
                    repeat (rw [exE_eq]; simp [hlq, hr, n0, n1, heb, hfb, show e + 1 ≤ x.below.length from heb, show f + 1 ≤ x.below.length from hfb, sg, sh, se, sf, ha, hb2])
                    try simp [wrap_id ((q : Int) + 1) (by omega) (by omega)]
                    exact Round.mk (q + 1) (weak_mk some (by simp [hst]) (by simp) rfl) hlq (by omega)
                · obtain rfl : q = (rowsU x x.labels.length).length := by omega
                  have hfo : tb (nth x.clash e) f = true → (rowsU x x.labels.length).any (foundP x e f) = true := fun h => by
                    obtain ⟨g, h', q1, q2, q3, q4⟩ := imm_pair hs hle1 hlf h
                    refine List.any_eq_true.2 ⟨_, q3, ?_⟩
                    exact found_of hs hle1 hlf (by omega) (by omega) q4
                  simp only [List.take_length]
                  generalize (rowsU x x.labels.length).any (foundP x e f) = B at *
                  have hbit := shr_has (struc_M hs hle1).2.1 f
                  by_cases h1 : ibits .and .i64 ((nth x.clash e).fdiv (2 ^ min f 64)) 1 = 1
                  · have hB := hfo (by rw [← hbit, h1]; rfl)
                    simp [hec, show e + 1 ≤ x.clash.length from hec, h1, hB, wrap_id ((f : Int) + 1) (by omega) (by omega)]
                    exact Round.mk (f + 1) (weak_mk some (by simp) (by simp) rfl) hlf (by omega)
                  · simp [hec, show e + 1 ≤ x.clash.length from hec, h1, wrap_id ((f : Int) + 1) (by omega) (by omega)]
                    exact Round.mk (f + 1) (weak_mk some (by simp) (by simp) rfl) hlf (by omega)
              · obtain rfl : f = x.labels.length := by omega
                simp [wrap_id ((e : Int) + 1) (by omega) (by omega)]
                exact Round.mk (e + 1) (weak_mk some (by simp) (by simp) rfl) hle1 (by omega)
            · obtain rfl : e = x.labels.length := by omega
              simp
      · have e4 : afterConfigurationV x c = (⟨[], [], []⟩, maskCode x c) := by unfold afterConfigurationV; rw [if_neg h0]
        simp [hs, e1, e2, e3, e4, h0]
        refine awp_loop2 [3, 9, 11, 13] [3, 56000, 61000] (fun k : Nat => [(17, iv k)]) (fun _ => []) (fun k => k ≤ (rowsU x x.labels.length).length) (fun k => (rowsU x x.labels.length).length - k) 0 (weak_mk some (by simp) (by simp) rfl) (by simp) ?_
        intro k hk
        by_cases hlk : k < (rowsU x x.labels.length).length
        · obtain ⟨e, f, hef, hfn, hr⟩ := rowsU_mem (nthR_mem hlk)
          have n0 : nth [(e : Int), (f : Int)] 0 = e := rfl
          have n1 : nth [(e : Int), (f : Int)] 1 = f := rfl
          have c1 : ¬ (e : Int) < 0 := by omega
          have c2 : ¬ (f : Int) ≤ (e : Int) := by omega
          have c3 : ¬ ((x.labels.length : Nat) : Int) ≤ (f : Int) := by omega
          simp [hlk, hr, n0, n1, c1, c2, c3]
          repeat (rw [exE_eq]; simp [hlk, hr, n0, n1, c1, c2, c3])
          try simp [wrap_id ((k : Int) + 1) (by omega) (by omega)]
          exact Round.mk (k + 1) (weak_mk some (by simp) (by simp) rfl) hlk (by omega)
        · obtain rfl : k = (rowsU x x.labels.length).length := by omega
          simp
          refine awp_loop2 [3, 9, 11, 13] [3, 56000, 61000] (fun k : Nat => [(18, iv k)]) (fun _ => []) (fun k => k ≤ (allConf x).length) (fun k => (allConf x).length - k) 0 (weak_mk some (by simp) (by simp) rfl) (by simp) ?_
          intro k hk
          by_cases hlk : k < (allConf x).length
          · have hmem := nth_mem hlk
            obtain ⟨cm1, cm2⟩ := (mem_allConf (by omega)).1 hmem
            have hsc : setCode x (nth (allConf x) k) = 0 := setCode_of hs cm1
            have hI : I64 (nth (allConf x) k) := by
              have := (isM_spec (by omega) cm1).1
              unfold I64
              have h1 := this.1
              have h2 := this.2
              omega
            have hcf := IsConfiguration_spec false false false x hxo (nth (allConf x) k) hI
            rw [show isConfigurationV x (nth (allConf x) k) = (true, 0) by unfold isConfigurationV; rw [if_pos hsc, cm2]] at hcf
            have hhi := hasInt_spec false ((allConf x).filter (isMaxC x)) (by have := List.length_filter_le (isMaxC x) (allConf x); omega) (nth (allConf x) k)
            have hho := holds9_spec false (allConf x) (by omega) (nth (allConf x) k)
            have hone := holds_one hs hmem
            have hdec : decide (nth (allConf x) k ∈ (allConf x).filter (isMaxC x)) = (((holdsN (allConf x) (nth (allConf x) k) : Nat) : Int) == 1) := by
              rw [Bool.eq_iff_iff, decide_eq_true_eq, beq_iff_eq, List.mem_filter]
              constructor
              · intro h; have := hone.2 h.2; omega
              · intro h; exact ⟨hmem, hone.1 (by omega)⟩
            rw [hdec] at hhi
            simp [hlk, show k + 1 ≤ (allConf x).length from hlk]
            repeat (rw [exE_eq]; simp [hlk, show k + 1 ≤ (allConf x).length from hlk])
            refine ⟨_, hcf, ?_⟩
            simp [hlk, show k + 1 ≤ (allConf x).length from hlk]
            repeat (rw [exE_eq]; simp [hlk, show k + 1 ≤ (allConf x).length from hlk])
            refine ⟨_, hhi, ?_⟩
            simp [hlk, show k + 1 ≤ (allConf x).length from hlk]
            repeat (rw [exE_eq]; simp [hlk, show k + 1 ≤ (allConf x).length from hlk])
            refine ⟨_, hho, ?_⟩
            simp [hlk, show k + 1 ≤ (allConf x).length from hlk]
            repeat (rw [exE_eq]; simp [hlk, show k + 1 ≤ (allConf x).length from hlk])
            try simp [wrap_id ((k : Int) + 1) (by omega) (by omega)]
            exact Round.mk (k + 1) (weak_mk some (by simp) (by simp) rfl) hlk (by omega)
          · obtain rfl : k = (allConf x).length := by omega
            simp
            refine awp_loop2 [3, 13] [3] (fun e : Nat => [(21, iv e)]) (fun _ => []) (fun e => e ≤ x.labels.length) (fun e => x.labels.length - e) 0 (weak_mk some (by simp) (by simp) rfl) (by simp) ?_
            intro e he
            by_cases hle1 : e < x.labels.length
            · simp [hle1]
              refine awp_loop2 [3, 13, 21] [3] (fun f : Nat => [(22, iv f)]) (fun _ => []) (fun f => f ≤ x.labels.length) (fun f => x.labels.length - f) 0 (weak_mk some (by simp) (by simp) rfl) (by simp) ?_
              intro f hf
              by_cases hlf : f < x.labels.length
              · have heb : e < x.below.length := by omega
                have hfb : f < x.below.length := by omega
                have hec : e < x.clash.length := by omega
                simp [hlf]
                refine awp_loop2 [3, 13, 21, 22] [3] (fun q : Nat => [(24, iv q), (23, bv (((rowsU x x.labels.length).take q).any (foundP x e f)))]) (fun _ => []) (fun q => q ≤ (rowsU x x.labels.length).length) (fun q => (rowsU x x.labels.length).length - q) 0 (weak_mk some (by simp) (by simp) rfl) (by simp) ?_
                intro q hq
                by_cases hlq : q < (rowsU x x.labels.length).length
                · obtain ⟨g, h, hgh, hhn, hr⟩ := rowsU_mem (nthR_mem hlq)
                  have hst := anyR_take (p := foundP x e f) hlq
                  have n0 : nth [(g : Int), (h : Int)] 0 = g := rfl
                  have n1 : nth [(g : Int), (h : Int)] 1 = h := rfl
                  have hfp : foundP x e f (nthR (rowsU x x.labels.length) q) = ((ibits .and .i64 (histOf x e) (pow1 g) != 0 && ibits .and .i64 (histOf x f) (pow1 h) != 0) || (ibits .and .i64 (histOf x e) (pow1 h) != 0 && ibits .and .i64 (histOf x f) (pow1 g) != 0)) := by rw [hr]; rfl
                  rw [hfp] at hst
                  generalize hB : ((rowsU x x.labels.length).take q).any (foundP x e f) = B at *
                  have ha : ibits .or .i64 (nth x.below e) (pow1 e) = histOf x e := rfl
                  have hb2 : ibits .or .i64 (nth x.below f) (pow1 f) = histOf x f := rfl
                  have sg := shl_pow (g := g) (by omega)
                  have sh := shl_pow (g := h) (by omega)
                  have se := shl_pow (g := e) (by omega)
                  have sf := shl_pow (g := f) (by omega)
                  generalize histOf x e = He at *
                  generalize histOf x f = Hf at *
                  cases B
                  · by_cases A1 : ibits .and .i64 He (pow1 g) = 0 <;> by_cases A2 : ibits .and .i64 Hf (pow1 h) = 0 <;> by_cases A3 : ibits .and .i64 He (pow1 h) = 0 <;> by_cases A4 : ibits .and .i64 Hf (pow1 g) = 0 <;>
                      (simp [hlq, hr, n0, n1, heb, hfb, show e + 1 ≤ x.below.length from heb, show f + 1 ≤ x.below.length from hfb, sg, sh, se, sf, ha, hb2, A1, A2, A3, A4]
                       repeat (rw [exE_eq]; simp [hlq, hr, n0, n1, heb, hfb, show e + 1 ≤ x.below.length from heb, show f + 1 ≤ x.below.length from hfb, sg, sh, se, sf, ha, hb2, A1, A2, A3, A4])
                       try simp [wrap_id ((q : Int) + 1) (by omega) (by omega)]
                       exact Round.mk (q + 1) (weak_mk some (by simp [hst, A1, A2, A3, A4]) (by simp) rfl) hlq (by omega))
                  · simp [hlq, hr, n0, n1, heb, hfb, show e + 1 ≤ x.below.length from heb, show f + 1 ≤ x.below.length from hfb, sg, sh, se, sf, ha, hb2]
                    repeat (rw [exE_eq]; simp [hlq, hr, n0, n1, heb, hfb, show e + 1 ≤ x.below.length from heb, show f + 1 ≤ x.below.length from hfb, sg, sh, se, sf, ha, hb2])
                    try simp [wrap_id ((q : Int) + 1) (by omega) (by omega)]
                    exact Round.mk (q + 1) (weak_mk some (by simp [hst]) (by simp) rfl) hlq (by omega)
                · obtain rfl : q = (rowsU x x.labels.length).length := by omega
                  have hfo : tb (nth x.clash e) f = true → (rowsU x x.labels.length).any (foundP x e f) = true := fun h => by
                    obtain ⟨g, h', q1, q2, q3, q4⟩ := imm_pair hs hle1 hlf h
                    refine List.any_eq_true.2 ⟨_, q3, ?_⟩
                    exact found_of hs hle1 hlf (by omega) (by omega) q4
                  simp only [List.take_length]
                  generalize (rowsU x x.labels.length).any (foundP x e f) = B at *
                  have hbit := shr_has (struc_M hs hle1).2.1 f
                  by_cases h1 : ibits .and .i64 ((nth x.clash e).fdiv (2 ^ min f 64)) 1 = 1
                  · have hB := hfo (by rw [← hbit, h1]; rfl)
                    simp [hec, show e + 1 ≤ x.clash.length from hec, h1, hB, wrap_id ((f : Int) + 1) (by omega) (by omega)]
                    exact Round.mk (f + 1) (weak_mk some (by simp) (by simp) rfl) hlf (by omega)
                  · simp [hec, show e + 1 ≤ x.clash.length from hec, h1, wrap_id ((f : Int) + 1) (by omega) (by omega)]
                    exact Round.mk (f + 1) (weak_mk some (by simp) (by simp) rfl) hlf (by omega)
              · obtain rfl : f = x.labels.length := by omega
                simp [wrap_id ((e : Int) + 1) (by omega) (by omega)]
                exact Round.mk (e + 1) (weak_mk some (by simp) (by simp) rfl) hle1 (by omega)
            · obtain rfl : e = x.labels.length := by omega
              simp
    · have e1 : configurationsOfV x = ([], 3) := by unfold configurationsOfV; rw [if_pos hs, if_neg hle]
      have e2 : maximalConfigurationsV x = ([], 3) := by unfold maximalConfigurationsV; rw [e1]; rfl
      simp [hs, e1, e2, e3]
  · have hs' : isStructureV x = false := by simpa using hs
    have e1 : configurationsOfV x = ([], 1) := by unfold configurationsOfV; rw [if_neg hs]
    have e2 : maximalConfigurationsV x = ([], 1) := by unfold maximalConfigurationsV; rw [e1]; rfl
    have e3 : immediateClashesV x = ([], 1) := by unfold immediateClashesV; rw [if_neg hs]
    have e4 : afterConfigurationV x c = (⟨[], [], []⟩, 1) := by
      have : maskCode x c = 1 := by unfold maskCode setCode; simp [hs']
      unfold afterConfigurationV; rw [this, if_neg (by simp)]
    simp [hs', e1, e2, e3, e4]
namespace LawOf
theorem fnAfterConfigurations (a : (Bool × List Int) × Unit) (h : (a.1.2.length ≤ maxLen ∧ ∀ x1 ∈ a.1.2, (Lit.int .u8 x1).wf = true) ∧ True) :
    ACalls1 Go.Proofs.Tryz.prog 5 [AV.sl 1 a.1.1 (a.1.2.flatMap fun y3 => [AV.val (.int .u8 y3)])] (bv true) := by
  obtain ⟨⟨nn, l⟩, _⟩ := a
  simp only [flat_bys]
  exact FnAfterConfigurations_spec nn l h.1
end LawOf
end Go.AM
namespace Go.Proofs.YthabclhldlikfaaGreatDoor.fnAfterConfigurations
open Go.ChangeShapes Go.WideShapes Go.ChangeAt Go.RowKit Go.AM
theorem own : ownKnob Tryz.prog.godebug = none := by kernel_rfl
theorem laidOut : laidOutB Tryz.prog = true := by kernel_rfl
theorem gN : Tryz.prog.globalNamed "math/bits.deBruijn64tab" = some 0 := by kernel_rfl
theorem gTy : (Tryz.prog.globals[0]?).map (·.type) = some 198 := by kernel_rfl
theorem gok (W : World) (h : laidMetH Tryz.prog [("math/bits.deBruijn64tab", Rows.laid_math_bits_deBruijn64tab)] W) : GOK Tryz.prog W (oldI W) := by
  rw [MakeChecks.laidMetH_plain _ _ _ (by kernel_rfl)] at h
  exact gok_tz gN (Lib.tabIs_of_head (rest := []) gN gTy Tryz.underlying198 Tryz.underlying5 (by kernel_rfl) (by kernel_rfl) h)
theorem door_met (os : Os) (args : Array Value) : laidMetH Tryz.prog [("math/bits.deBruijn64tab", Rows.laid_math_bits_deBruijn64tab)] ((World.doorLaid Tryz.prog 14 os).forCall (fun _ _ => 0) ⟨#[], args, []⟩).memory :=
  laidMetH_of_parts3 (fuel := 8) (laidMet_of_run' 8 (by kernel_rfl) (by kernel_rfl)) (by kernel_rfl) (by kernel_rfl)
theorem lifted (os : Os) (started : os.Started) (H : Type) (enc : TypeId × Value → H) :
    ReturnsInHanded {} Tryz.checked os 5 .any (fun w args => (Rows.fnAfterConfigurationsSpec.pre enc Tryz.prog Tryz.f5 [] false w args ∧ laidMetH Tryz.prog [("math/bits.deBruijn64tab", Rows.laid_math_bits_deBruijn64tab)] w) ∧ sizedMet enc Tryz.prog Tryz.f5 (OpenSpec.ofChange Rows.fnAfterConfigurationsSpec) false w args)
      (Rows.fnAfterConfigurationsSpec.post enc Tryz.prog Tryz.f5 false true false false) := by
  have hopen := (show OpensL Tryz.prog [41] _ _ from (opensL_cons (opensA_slice Tryz.underlying41 (opens_slice (n := 1) Tryz.underlying41 (by kernel_rfl) (opens_int (k := .u8) Tryz.underlying5) (fun _ => rfl))) opensL_nil))
  refine lift_laid (L := [("math/bits.deBruijn64tab", Rows.laid_math_bits_deBruijn64tab)]) (rt := 4) (C := Tryz.checked) (fn := Tryz.f5) hopen (fun a h => LawOf.fnAfterConfigurations a h) gok ?_ own started Tryz.func5 rfl (by kernel_rfl) rfl Tryz.underlying4 laidOut (by kernel_rfl)
    (ChangeSpec.witness_shaped (enc := enc) (C := Tryz.checked) (os := os) (X := fun w _ => laidMetH Tryz.prog [("math/bits.deBruijn64tab", Rows.laid_math_bits_deBruijn64tab)] w) false (World.doorLaid Tryz.prog 14 os) #[(Value.slice none 0 0)] 8 rfl (World.shaped_of_RefB (by kernel_rfl) (by kernel_rfl)) (by kernel_rfl) (by kernel_rfl) (by kernel_rfl) (door_met os _))
  intro H ds hds
  match ds, hds with
  | [d0], _ => exact ⟨rfl, rfl, rfl⟩
theorem over : Rows.fnAfterConfigurationsRow.holds Tryz.pinned (OpenSpec.ofChange Rows.fnAfterConfigurationsSpec) :=
  OpenClaim.holds_of_wide 5 Tryz.f5 rfl rfl rfl rfl rfl rfl rfl ⟨rfl, rfl, rfl, rfl, rfl⟩ rfl rfl rfl rfl rfl (by kernel_rfl) Tryz.func5 (by kernel_rfl)
    (of_decide_eq_true (by kernel_rfl)) (by unfold Func.isWrapper; first | (rw [if_pos (by decide +kernel)]; kernel_rfl) | (rw [if_neg (by decide +kernel)]; exact ⟨rfl, rfl⟩))
    (fun os started H enc _ => lifted os started H enc)
end Go.Proofs.YthabclhldlikfaaGreatDoor.fnAfterConfigurations
namespace Go.Proofs.YthabclhldlikfaaGreatDoor
/-- The card. -/
theorem fnAfterConfigurationsCard_holds : Rows.FnAfterConfigurationsCardSaid :=
  Claim7.holds_tied_plain_at .later [] [.data] true (true, "74247c04aa4733983e0e43a80e9bb559cf15dd0b05887c89031cd735b998c015") false fnAfterConfigurations.over (fun _ h => by cases h) (by kernel_rfl) (fun _ h => by cases h) fnAfterConfigurations_row_tie rfl ⟨rfl, rfl⟩ (by kernel_rfl) rfl
    (fun f fn hf hfn => by
      obtain rfl : f = 5 := Option.some.inj ((show Tryz.prog.funcNamed "loop.example/g01094/laws.FnAfterConfigurations" = some 5 by kernel_rfl).symm.trans hf) |>.symm
      obtain rfl : fn = Tryz.f5 := (Option.some.inj (Tryz.func5.symm.trans hfn)).symm
      exact ⟨by kernel_rfl, fun j t ht => by
        rw [show Tryz.f5.params = #[41] by kernel_rfl] at ht
        have hm : t ∈ [41] := by simpa using Array.mem_of_getElem? ht
        have hall : ([41].all fun u => !Tryz.prog.wantsStandIn u) = true := by kernel_rfl
        exact (show Tryz.prog.wantsStandIn t = false by simpa using List.all_eq_true.1 hall t hm)⟩)
    (by kernel_rfl)
#print axioms fnAfterConfigurationsCard_holds
end Go.Proofs.YthabclhldlikfaaGreatDoor
