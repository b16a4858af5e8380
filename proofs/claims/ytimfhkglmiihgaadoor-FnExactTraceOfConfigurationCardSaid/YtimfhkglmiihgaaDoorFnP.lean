/-
  TraceOfConfiguration: both sides.
-/
import Derived.Test.YtimfhkglmiihgaaDoorFnPa
import Derived.Test.YtimfhkglmiihgaaDoorFnO
import Derived.Test.YtimfhkglmiihgaaDoorFnGb
set_option linter.unusedVariables false
set_option linter.unusedSimpArgs false
set_option maxRecDepth 100000
set_option maxHeartbeats 1600000
namespace Go.AM
open Go.Proofs
/-- The letters of the word. -/
def wordN (s : StrucV) (c : Int) : List Nat := (wordC s c).map Int.toNat
def traceOfConfigurationV (x : AlphaV) (s : StrucV) (c : Int) : List Int × Int :=
  if isAlphaV x = true then (if isStructureV s = true then (if isM s.labels.length c = true then (if labOk x s = true then (if isConf s c = true then (nats (nf x.depends (wordN s c)), 0) else ([], 5)) else ([], 2)) else ([], 2)) else ([], 1)) else ([], 1)
theorem wordN_nats {s : StrucV} (hs : isStructureV s = true) (c : Int) : nats (wordN s c) = wordC s c := by
  unfold nats wordN
  rw [List.map_map]
  have : ∀ l : List Int, (∀ y ∈ l, 0 ≤ y) → l.map ((fun (e : Nat) => (e : Int)) ∘ Int.toNat) = l := by
    intro l
    induction l with
    | nil => intro _; rfl
    | cons y l ih =>
      intro h
      rw [List.map_cons, ih (fun z hz => h z (by simp [hz]))]
      have := h y (by simp)
      simp only [Function.comp, Int.toNat_of_nonneg this]
  refine this _ fun y hy => ?_
  exact (wordS_lab (struc_lab hs) (popc c.toNat) y hy).1
theorem wordN_ok {x : AlphaV} (hx : AlOk x) {s : StrucV} (hs : isStructureV s = true) (hlab : labOk x s = true) {c : Int} (hc : isM s.labels.length c = true) (hcf : isConf s c = true) : WOk x.depends.length (wordN s c) := by
  obtain ⟨h1, h2, h3⟩ := struc_len hs
  refine ⟨?_, fun a ha => ?_⟩
  · have := wordC_length s c
    have := isM_lt h1 hc
    unfold wordN; rw [List.length_map]; omega
  · obtain ⟨y, hy, rfl⟩ := List.mem_map.1 ha
    obtain ⟨e, he, rfl⟩ := wordC_lab hs hc hcf y hy
    unfold labOk at hlab
    rw [List.all_eq_true] at hlab
    have := hlab _ (nth_mem he)
    simp only [Bool.and_eq_true, decide_eq_true_eq] at this
    have := hx.let_
    omega
theorem labLt_eq {s : StrucV} (hs : isStructureV s = true) (x : AlphaV) : (s.labels.all fun y => decide (y < x.letters)) = labOk x s := by
  rw [Bool.eq_iff_iff, labOk, List.all_eq_true, List.all_eq_true]
  constructor
  · intro h y hy
    have h1 := h y hy
    have h2 := struc_lab hs y hy
    simp only [Bool.and_eq_true, decide_eq_true_eq] at h1 ⊢; omega
  · intro h y hy
    have h1 := h y hy
    simp only [Bool.and_eq_true, decide_eq_true_eq] at h1 ⊢; omega
theorem tok_of {x : AlphaV} (hx : AlOk x) : TOk x.depends := ⟨by have := hx.len; omega, fun a ha => (alOk_M hx ha).1⟩
theorem ties_spec (a0 : Bool) (x : AlphaV) : ACalls1 Tryd.prog 86 [alphaSl a0 x] (.sl 1 a0 (ints x.depends)) := by
  refine walk (fun t => t == 1) mixed Go.Proofs.Tryd.func86 rfl rfl rfl (by kernel_rfl) rfl (by simp) (by kernel_rfl) ?_
  simp
theorem TraceOfConfiguration_spec (b0 : Bool) (x : AlphaV) (hx : AlphabetOk x) (a0 a1 a2 : Bool) (s : StrucV) (hs : StructureOk s) (c : Int) (hc : I64 c) : ACalls1 Tryd.prog 26 [alphaSl b0 x, strucSl a0 a1 a2 s, iv c] (.tup [.own 1 false (ints (traceOfConfigurationV x s c).1), iv (traceOfConfigurationV x s c).2]) := by
  refine walk (fun t => t == 3 || t == 4 || t == 1038) mixed Go.Proofs.Tryd.func26 rfl rfl rfl (by kernel_rfl) rfl (by simp) (by kernel_rfl) ?_
  simp
  refine ⟨_, IsAlphabet_spec b0 x hx.1 hx.2.1, ?_⟩
  unfold traceOfConfigurationV
  cases hA : isAlphaV x
  · simp
  · have hok := alOk_of hA
    have hl8 := hok.len
    have hll := hok.let_
    simp
    refine ⟨_, IsStructure_spec a0 a1 a2 s hs, ?_⟩
    cases hS : isStructureV s
    · simp
    · obtain ⟨h1, h2, h3⟩ := struc_len hS
      simp
      refine ⟨_, length_spec _ _ hs.1.1, ?_⟩
      simp
      refine ⟨_, IsMask_spec _ _, ?_⟩
      rw [h2, isMaskB_isM (by omega)]
      cases hm : isM s.labels.length c
      · simp
      · have hw : IntKind.i64.wrap (x.letters - 1) = x.letters - 1 := wrap_id _ (by omega) (by omega)
        simp [hw]
        refine ⟨_, allIn_spec _ _ _ _ hs.2.2.1, ?_⟩
        have hlo : (s.labels.all fun y => decide (0 ≤ y) && decide (y ≤ x.letters - 1)) = labOk x s := rfl
        rw [hlo]
        cases hl : labOk x s
        · simp
        · simp
          refine ⟨_, isConfiguration_spec _ _ _ s hS c hm, ?_⟩
          cases hcf : isConf s c
          · simp
          · have hwk := wordN_ok hok hS hl hm hcf
            simp
            refine ⟨_, ties_spec _ x, ?_⟩
            simp
            refine ⟨_, smallestWord_spec _ _ _ s hS c hm, ?_⟩
            rw [← wordN_nats hS]
            simp
            refine ⟨_, normal_spec _ _ _ (tok_of hok) _ hwk, ?_⟩
            simp
            first | refine ⟨⟨by kernel_rfl, by kernel_rfl⟩, ?_⟩ | exact ⟨by kernel_rfl, by kernel_rfl⟩
theorem specTraceOfConfiguration_spec (b0 : Bool) (x : AlphaV) (hx : AlphabetOk x) (a0 a1 a2 : Bool) (s : StrucV) (hs : StructureOk s) (c : Int) (hc : I64 c) : ACalls1 Tryd.prog 24 [alphaSl b0 x, strucSl a0 a1 a2 s, iv c] (.tup [.own 1 false (ints (traceOfConfigurationV x s c).1), iv (traceOfConfigurationV x s c).2]) := by
  refine walk (fun t => t == 3 || t == 4 || t == 1028) mixed Go.Proofs.Tryd.func24 rfl rfl rfl (by kernel_rfl) rfl (by simp) (by kernel_rfl) ?_
  simp
  refine ⟨_, l02Is_spec b0 x hx.1 hx.2.1, ?_⟩
  unfold traceOfConfigurationV
  cases hA : isAlphaV x
  · simp
  · have hok := alOk_of hA
    have hl8 := hok.len
    have hll := hok.let_
    simp
    refine ⟨_, l16Mask_spec _ _ _ s hs c, ?_⟩
    cases hS : isStructureV s
    · have e : maskCode s c = 1 := by simp [maskCode, setCode, hS]
      simp [e]
    · obtain ⟨h1, h2, h3⟩ := struc_len hS
      have hlab := struc_lab hS
      cases hm : isM s.labels.length c
      · have e : maskCode s c = 2 := by simp [maskCode, setCode, hS, hm]
        simp [e]
        refine ⟨_, l16Labels_spec _ x _ _ _ s h1, ?_⟩
        rw [labLt_eq hS]
        cases hl : labOk x s <;> simp
      · cases hcf : isConf s c
        · have e : maskCode s c = 5 := by simp [maskCode, setCode, hS, hm, hcf]
          simp [e]
          refine ⟨_, l16Labels_spec _ x _ _ _ s h1, ?_⟩
          rw [labLt_eq hS]
          cases hl : labOk x s <;> simp
        · have e : maskCode s c = 0 := by simp [maskCode, setCode, hS, hm, hcf]
          simp [e]
          refine ⟨_, l16Labels_spec _ x _ _ _ s h1, ?_⟩
          rw [labLt_eq hS]
          cases hl : labOk x s
          · simp
          · have hwk := wordN_ok hok hS hl hm hcf
            simp
            refine ⟨_, l16Word_spec _ _ _ s hS c hm, ?_⟩
            rw [← wordN_nats hS]
            simp
            refine ⟨_, l03Normal_spec _ _ x hll (tok_of hok) _ hwk, ?_⟩
            simp
            first | refine ⟨⟨by kernel_rfl, by kernel_rfl⟩, ?_⟩ | exact ⟨by kernel_rfl, by kernel_rfl⟩
theorem TraceOfConfiguration_fits (x : AlphaV) (hx : AlphabetOk x) (s : StrucV) (hs : StructureOk s) (c : Int) (hc : I64 c) : ListOk (traceOfConfigurationV x s c).1 := by
  unfold traceOfConfigurationV
  by_cases hA : isAlphaV x = true
  · by_cases hS : isStructureV s = true
    · by_cases hm : isM s.labels.length c = true
      · by_cases hl : labOk x s = true
        · by_cases hcf : isConf s c = true
          · rw [if_pos hA, if_pos hS, if_pos hm, if_pos hl, if_pos hcf]
            have hok := alOk_of hA
            have hwk := wordN_ok hok hS hl hm hcf
            have hp := nf_perm (tok_of hok) _ (u := wordN s c) rfl hwk.2
            refine ⟨by simp only [Fits, nats_length]; rw [hp.length_eq]; have := hwk.1; omega, fun z hz => ?_⟩
            unfold nats at hz
            obtain ⟨a, ha, rfl⟩ := List.mem_map.1 hz
            have := hwk.2 a (hp.mem_iff.1 ha)
            have := hok.len
            unfold I64; omega
          · rw [if_pos hA, if_pos hS, if_pos hm, if_pos hl, if_neg hcf]; simp [ListOk, Fits]
        · rw [if_pos hA, if_pos hS, if_pos hm, if_neg hl]; simp [ListOk, Fits]
      · rw [if_pos hA, if_pos hS, if_neg hm]; simp [ListOk, Fits]
    · rw [if_pos hA, if_neg hS]; simp [ListOk, Fits]
  · rw [if_neg hA]; simp [ListOk, Fits]
end Go.AM
