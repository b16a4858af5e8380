/-
  The law laws.FnTraceStructures: for every input it returns true, and the input reads as it did, where the table math/bits.deBruijn64tab holds what the program lays: the statement Rows.FnTraceStructuresCardSaid.
  The condition on the table is tied to the text by the given tie; the project is a pruned copy.
-/
import Derived.Test.YthabclhldlikfaaGreatDoorRows
import Derived.Test.YthabclhldlikfaaGreatDoorCards
import Derived.Test.YthabclhldlikfaaGreatDoorTie
import Derived.Test.YthabclhldlikfaaGreatDoorAmRow
import Derived.Test.YthabclhldlikfaaGreatDoorFnMgS
import Derived.Test.YthabclhldlikfaaGreatDoorFnMgQ
import Derived.Test.YthabclhldlikfaaGreatDoorFnMgM
import Derived.Test.YthabclhldlikfaaGreatDoorFnMgJ
import Derived.Test.YthabclhldlikfaaGreatDoorFnMgR
set_option linter.unusedVariables false
set_option linter.unusedSimpArgs false
set_option maxRecDepth 100000
set_option maxHeartbeats 1600000
namespace Go.AM
open Go.Proofs
theorem isFin_one {x : AlphaV} (hx : isAlphaV x = true) {u : List Int} (hu : overW x.depends.length u = true) : isFin x [u] = true := by
  unfold isFin listOk
  rw [hx, Bool.true_and, Bool.and_eq_true, List.all_eq_true]
  refine ⟨fun i hi => ?_, by simp⟩
  have : i = 0 := by simpa using hi
  subst this
  unfold stepOk
  simp [nthR, hu]
theorem primes_one {x : AlphaV} (hx : isAlphaV x = true) {u : List Int} (hu : overW x.depends.length u = true) (h12 : u.length ≤ 12) : (primesS x.depends [u] 1).length ≤ 16 := by
  have hT := symT_ofV hx
  have hr : ∀ r ∈ [u], overW x.depends.length r = true := by simpa using hu
  have hnd := strict_nodup (primesS_ok hT.ok hr 1 (by simp)).st
  have hsub : ∀ r ∈ primesS x.depends [u] 1, r ∈ (List.range u.length).map (primeR x.depends u) := fun r hr' => by
    obtain ⟨j, hj, i, hi, rfl⟩ := (primesS_iff 1 (by simp)).1 hr'
    obtain rfl : j = 0 := by omega
    exact List.mem_map.2 ⟨i, List.mem_range.2 hi, rfl⟩
  have := hnd.length_le_of_subset hsub
  simp at this; omega
theorem overW_take {n : Nat} {w : List Int} (h : overW n w = true) (k : Nat) : overW n (w.take k) = true := by
  unfold overW at h ⊢
  simp only [Bool.and_eq_true, List.all_eq_true, decide_eq_true_eq] at h ⊢
  refine ⟨?_, fun y hy => h.2 y (List.mem_of_mem_take hy)⟩
  have := h.1
  rw [List.length_take]; omega
/-- All that is told of the structure of one trace. -/
theorem oneT {x : AlphaV} (hx : isAlphaV x = true) {u : List Int} (hou : overW x.depends.length u = true) (hul : u.length ≤ 12) : ∃ s : StrucV, ∃ C : List Int, ∃ f : Int, structV x [u] = (s, 0) ∧ StructureOk s ∧ isStructureV s = true ∧ s.labels.length = u.length ∧
    isTraceStructureV x s = (true, 0) ∧ configurationsOfV s = (C, 0) ∧ 0 < C.length ∧ C.length ≤ 4096 ∧ nth C (C.length - 1) = f ∧ I64 f ∧
    (∀ c ∈ C, ∃ k : Nat, c = k ∧ k < 65536 ∧ ∃ v : List Nat, traceOfConfigurationV x s c = (nats v, 0) ∧ overW x.depends.length (nats v) = true ∧ withinI x.depends (nats v) u = true ∧ v.length = popc k) ∧
    traceOfConfigurationV x s f = (nats (nf x.depends (wn u)), 0) ∧ wordOfConfigurationV s f = (nats (nf x.depends (wn u)), 0) ∧ countOrdersV s f = (cN x.depends (wn u), 0) ∧
    (∀ r r', Rst x.depends (wn u) r → Rst x.depends (wn u) r' → keyN r = keyN r' → r = r') ∧ (∀ r, Rst x.depends (wn u) r → 0 ≤ cN x.depends r ∧ cN x.depends r ≤ 20922789888000) ∧
    (∀ K : List Int, K.Nodup → (∀ k, k ∈ K → ∃ r, Rst x.depends (wn u) r ∧ k = keyI (wn u) r) → K.length ≤ 65536) ∧ (∀ K : List Int, K.Nodup → (∀ k, k ∈ K ↔ ∃ r, Rst x.depends (wn u) r ∧ k = keyI (wn u) r) → K.length = C.length) := by
  have hP16 : (primesS x.depends [u] [u].length).length ≤ 16 := primes_one hx hou hul
  have hPS := prS_of hx (rs := [u]) (by simpa using hou) hP16
  have hSV : structV x [u] = (structP x.depends [u] (primesS x.depends [u] [u].length), 0) := by unfold structV; rw [if_pos (isFin_one hx hou), if_pos hP16]
  generalize primesS x.depends [u] [u].length = P at *
  have h16 := hPS.n
  have hlen := hPS.len
  have hpl := hPS.plen
  have hul2 := wn_len u
  have hc12 := hPS.confs_le (by omega)
  obtain ⟨r, hr⟩ := hPS.confs_last
  have hn : (structP x.depends [u] P).labels.length ≤ 16 := by omega
  have hfull := hPS.part hPS.full_M hPS.fullC
  have hfv := hPS.fullPart
  have hM : isM (structP x.depends [u] P).labels.length (full P.length) = true := by rw [hlen]; exact hPS.full_M
  have hmask : maskCode (structP x.depends [u] P) (full P.length) = 0 := by
    unfold maskCode setCode
    simp [hPS.struc, hM, hPS.fullC]
  have hpe := Nat.two_pow_pos P.length
  have hple : (2 : Nat) ^ P.length ≤ 65536 := Nat.pow_le_pow_right (show 2 > 0 by omega) (show P.length ≤ 16 from h16)
  refine ⟨_, allConf (structP x.depends [u] P), full P.length, hSV, structP_ok hx hPS, hPS.struc, by omega, hPS.isTrace hx rfl, ?_, ?_, hc12, ?_, ?_, fun c hc => ?_, ?_, ?_, ?_, fun r r' h1 h2 h3 => hPS.rstInj h1 h2 h3, fun r hr => ?_, fun K h1 h2 => Nat.le_trans (hPS.keys_le h1 h2) (by omega), fun K h1 h2 => hPS.keys h1 h2⟩
  · unfold configurationsOfV; rw [if_pos hPS.struc, if_pos hc12]
  · rw [hr]; simp
  · rw [hr]; simp [nth]
  · rw [full_eq (by omega)]; unfold I64; omega
  · rw [mem_allConf (by omega), hlen] at hc
    obtain ⟨c1, c2⟩ := hc
    obtain ⟨p1, p2, p3⟩ := hPS.part c1 c2
    have hm := (isM_iff (by omega)).1 c1
    have hl24 : (pkP (fun i => tb c (evI x.depends P (wn u) i)) (wn u)).length ≤ 24 := by have := p1.len; have := hPS.v24; omega
    have hvl : ∀ a ∈ pkP (fun i => tb c (evI x.depends P (wn u) i)) (wn u), a < x.depends.length := fun a ha => hPS.vl a (p1.mem ha)
    have htc := hPS.tconf hx hvl hl24 (w := u) (by simp) p1
    rw [p2] at htc
    have hpm := nf_perm hPS.sy.ok _ rfl hvl
    refine ⟨c.toNat, by omega, by omega, _, htc, ?_, ?_, ?_⟩
    · exact overW_of_nats (fun a ha => hvl a (hpm.mem_iff.1 ha)) (by rw [hpm.length_eq]; exact hl24)
    · unfold withinI
      rw [wn_natsU, within_iff hPS.sy hPS.vl]
      exact (Pre.of_sws (sws_nf hPS.sy.ok hPS.sy.sym _ rfl hvl).symm).trans p1
    · rw [hpm.length_eq, p3, popc_cardN (by omega) c1]
  · have htc := hPS.tconf hx hPS.vl hPS.v24 (w := u) (by simp) (Pre.of_sws (.refl _))
    rw [hfv] at hfull
    rw [hfull.2.1] at htc
    exact htc
  · unfold wordOfConfigurationV; rw [if_pos hmask, hPS.wordF]
  · unfold countOrdersV; rw [if_pos hmask, hPS.ordC hn]
  · obtain ⟨d, d1, d2, rfl⟩ := hPS.rst.1 hr
    rw [hPS.ways hn _ rfl d1 d2]
    exact fN_le hn hM (hPS.inCf d1)
theorem FnTraceStructures_spec (nn : Bool) (l : List Int) (hl : CodeIn l) : ACalls1 Tryz.prog 6 [.sl 1 nn (bys l)] (bv true) := by
  refine walk (fun t => t == 7032 || t == 1130) mixed Go.Proofs.Tryz.func6 rfl rfl rfl (by kernel_rfl) rfl (by simp) (by kernel_rfl) ?_
  simp
  refine ⟨_, big_spec nn l, ?_⟩
  simp
  intro hb
  refine ⟨_, DrawStructureOfTraces_spec nn l (bysOk_of hl (by omega)), ?_⟩
  rintro _ _ ⟨x, rs, ⟨hx, hx4⟩, h61, hfit, rfl, rfl⟩
  have hok := alOk_of hx
  have hxl : I64 x.letters := by rw [hok.let_]; unfold I64; omega
  have hd : Fits x.depends := by unfold Fits; omega
  simp
  refine ⟨_, specIsFinite_spec true _ _ x hxl hd rs (by omega) hfit, ?_⟩
  by_cases hfin : isFin x rs = true
  · by_cases h0 : rs = []
    · subst h0; simp [hfin]
    · have hpos : 0 < rs.length := List.length_pos_iff.2 h0
      obtain ⟨_, hov, h40⟩ := isFin_rows hfin
      have hlast : rs.length - 1 < rs.length := by omega
      have how := hov _ (nthR_mem hlast)
      obtain ⟨u, hu⟩ : ∃ u, u = (nthR rs (rs.length - 1)).take 12 := ⟨_, rfl⟩
      have hou : overW x.depends.length u = true := by rw [hu]; exact overW_take how 12
      have hul : u.length ≤ 12 := by rw [hu, List.length_take]; omega
      have hw1 : IntKind.i64.wrap ((rs.length : Int) - 1) = ((rs.length - 1 : Nat) : Int) := by rw [wrap_id _ (by omega) (by omega)]; omega
      obtain ⟨s, C, f, hSV, hso, hst, hsl, hits, hcV, hC0, hC12, hCl, hf64, hCc, hTf, hWf, hOf, hinj, hbd, hle, heq⟩ := oneT hx hou hul
      have hS := fun a b c => StructureOfTraces_spec a b c x hxl hd [u] (by simp) (by simp; unfold Fits; omega)
      rw [hSV] at hS
      have hxo : AlphabetOk x := ⟨hxl, hd, fun y hy => by
        obtain ⟨i, hi, rfl⟩ := List.mem_iff_getElem.1 hy
        rw [← nth_at hi]; exact I64_of_M (alOk_M hok hi).1⟩
      have hIT := IsTraceStructure_spec true x hxo false false false s hso
      rw [hits] at hIT
      have hCO := ConfigurationsOf_spec false false false s hso
      rw [hcV] at hCO
      have hCP := CountPrefixes_spec true true x hx u hou hinj hle C.length heq
      have hCC := CountClass_spec true true x hx u hou hinj hbd
      have hTF := TraceOfConfiguration_spec true x hxo false false false s hso f hf64
      rw [hTf] at hTF
      have hWF := WordOfConfiguration_spec false false false s hso f hf64
      rw [hWf] at hWF
      have hOF := CountOrders_spec false false false s hso f hf64
      rw [hOf] at hOF
      have hN9 := normal9_spec true true x hx u hou
      have hnl : (nats (nf x.depends (wn u))).length < 1000000 := by
        rw [(nfw_over (symT_ofV hx).ok hou).2]; omega
      have hCw : IntKind.i64.wrap ((C.length : Int) - 1) = ((C.length - 1 : Nat) : Int) := by rw [wrap_id _ (by omega) (by omega)]; omega
      simp [hfin, h0, hpos, hw1, show rs.length - 1 + 1 ≤ rs.length by omega]
      refine ⟨hlast, fun h12 => ⟨by omega, ?A⟩, fun h12 => ?B⟩
      case' A => simp only [ints_take, ← hu]
      case' B => simp only [show nthR rs (rs.length - 1) = u by rw [hu, List.take_of_length_le (by omega)]]
      all_goals
        refine ⟨_, hS true true true, ?_⟩
        simp [hsl]
        refine ⟨_, IsStructure_spec false false false s hso, ?_⟩
        simp [hst]
        refine ⟨_, hIT, ?_⟩
        simp
        refine ⟨_, hCP, ?_⟩
        simp
        refine ⟨_, hCO, ?_⟩
        simp [show ¬ C = [] from fun e => by rw [e] at hC0; simp at hC0]
        refine awp_loop2 [3, 5, 6, 12] [3, 6, 92000, 60001000, 60001001, 60001002] (fun k : Nat => [(14, iv k)]) (fun _ => []) (fun k => k ≤ C.length) (fun k => C.length - k) 0 (weak_mk some (by simp) (by simp) rfl) (by simp) ?_
        intro k hk
        by_cases hgo : k < C.length ∧ (k : Int) < 40
        · obtain ⟨hlk, h40k⟩ := hgo
          obtain ⟨kk, e1, e2, v, e3, e4, e5, e6⟩ := hCc _ (nth_mem hlk)
          have hT := TraceOfConfiguration_spec true x hxo false false false s hso (nth C k) (by rw [e1]; unfold I64; omega)
          rw [e3] at hT
          have hPf := IsPrefix_yesF true true x hx (nats v) u e4 hou
          rw [e5] at hPf
          have hB9 := bits9_spec kk (by omega)
          simp [hlk, h40k, show k + 1 ≤ C.length from hlk]
          repeat (rw [exE_eq]; simp [hlk, show k + 1 ≤ C.length from hlk])
          refine ⟨_, hT, ?_⟩
          simp
          repeat (refine And.intro (by first | omega | exact ⟨by kernel_rfl, by kernel_rfl⟩) ?_)
          refine ⟨_, hPf, ?_⟩
          simp [hlk, show k + 1 ≤ C.length from hlk, e1]
          refine ⟨_, hB9, ?_⟩
          simp [e6, wrap_id ((k : Int) + 1) (by omega) (by omega)]
          exact Round.mk (k + 1) (weak_mk some (by simp) (by simp) rfl) hlk (by omega)
        · have hlastC : C.length - 1 < C.length := by omega
          rcases Nat.lt_or_ge k C.length with hlk | hlk
          case' inl => simp [hlk, show ¬ (k : Int) < 40 by omega, hCw, hlastC, show C.length - 1 + 1 ≤ C.length from hlastC, hCl]
          case' inr => simp [show ¬ k < C.length by omega, hCw, hlastC, show C.length - 1 + 1 ≤ C.length from hlastC, hCl]
          all_goals
            refine ⟨_, hTF, ?_⟩
            simp
            refine ⟨_, hWF, ?_⟩
            simp
            refine ⟨_, hOF, ?_⟩
            simp
            refine ⟨_, hCC, ?_⟩
            simp
            refine ⟨_, hN9, ?_⟩
            simp
            refine ⟨_, likeInts_sameW _ _ _ hnl, ?_⟩
            simp
            refine ⟨_, likeInts_sameW _ _ _ hnl, ?_⟩
            simp
  · simp [hfin]
namespace LawOf
theorem fnTraceStructures (a : (Bool × List Int) × Unit) (h : (a.1.2.length ≤ maxLen ∧ ∀ x1 ∈ a.1.2, (Lit.int .u8 x1).wf = true) ∧ True) :
    ACalls1 Go.Proofs.Tryz.prog 6 [AV.sl 1 a.1.1 (a.1.2.flatMap fun y3 => [AV.val (.int .u8 y3)])] (bv true) := by
  obtain ⟨⟨nn, l⟩, _⟩ := a
  simp only [flat_bys]
  exact FnTraceStructures_spec nn l h.1
end LawOf
end Go.AM
namespace Go.Proofs.YthabclhldlikfaaGreatDoor.fnTraceStructures
open Go.ChangeShapes Go.WideShapes Go.ChangeAt Go.RowKit Go.AM
theorem own : ownKnob Tryz.prog.godebug = none := by kernel_rfl
theorem laidOut : laidOutB Tryz.prog = true := by kernel_rfl
theorem gN : Tryz.prog.globalNamed "math/bits.deBruijn64tab" = some 0 := by kernel_rfl
theorem gTy : (Tryz.prog.globals[0]?).map (·.type) = some 198 := by kernel_rfl
theorem gok (W : World) (h : laidMetH Tryz.prog [("math/bits.deBruijn64tab", Rows.laid_math_bits_deBruijn64tab)] W) : GOK Tryz.prog W (oldI W) := by
  rw [MakeChecks.laidMetH_plain _ _ _ (by kernel_rfl)] at h
  exact gok_tz gN (Lib.tabIs_of_head (rest := []) gN gTy Tryz.underlying198 Tryz.underlying5 (by kernel_rfl) (by kernel_rfl) h)
theorem door_met (os : Os) (args : Array Value) : laidMetH Tryz.prog [("math/bits.deBruijn64tab", Rows.laid_math_bits_deBruijn64tab)] ((World.doorLaid Tryz.prog 14 os).forCall (fun _ _ => 0) ⟨#[], args, []⟩).memory :=
  laidMetH_of_parts3 (fuel := 8) (laidMet_of_run' 8 (by kernel_rfl) (by kernel_rfl)) (by kernel_rfl) (by kernel_rfl)
theorem lifted (os : Os) (started : os.Started) (H : Type) (enc : TypeId × Value → H) :
    ReturnsInHanded {} Tryz.checked os 6 .any (fun w args => (Rows.fnTraceStructuresSpec.pre enc Tryz.prog Tryz.f6 [] false w args ∧ laidMetH Tryz.prog [("math/bits.deBruijn64tab", Rows.laid_math_bits_deBruijn64tab)] w) ∧ sizedMet enc Tryz.prog Tryz.f6 (OpenSpec.ofChange Rows.fnTraceStructuresSpec) false w args)
      (Rows.fnTraceStructuresSpec.post enc Tryz.prog Tryz.f6 false true false false) := by
  have hopen := (show OpensL Tryz.prog [41] _ _ from (opensL_cons (opensA_slice Tryz.underlying41 (opens_slice (n := 1) Tryz.underlying41 (by kernel_rfl) (opens_int (k := .u8) Tryz.underlying5) (fun _ => rfl))) opensL_nil))
  refine lift_laid (L := [("math/bits.deBruijn64tab", Rows.laid_math_bits_deBruijn64tab)]) (rt := 4) (C := Tryz.checked) (fn := Tryz.f6) hopen (fun a h => LawOf.fnTraceStructures a h) gok ?_ own started Tryz.func6 rfl (by kernel_rfl) rfl Tryz.underlying4 laidOut (by kernel_rfl)
    (ChangeSpec.witness_shaped (enc := enc) (C := Tryz.checked) (os := os) (X := fun w _ => laidMetH Tryz.prog [("math/bits.deBruijn64tab", Rows.laid_math_bits_deBruijn64tab)] w) false (World.doorLaid Tryz.prog 14 os) #[(Value.slice none 0 0)] 8 rfl (World.shaped_of_RefB (by kernel_rfl) (by kernel_rfl)) (by kernel_rfl) (by kernel_rfl) (by kernel_rfl) (door_met os _))
  intro H ds hds
  match ds, hds with
  | [d0], _ => exact ⟨rfl, rfl, rfl⟩
theorem over : Rows.fnTraceStructuresRow.holds Tryz.pinned (OpenSpec.ofChange Rows.fnTraceStructuresSpec) :=
  OpenClaim.holds_of_wide 6 Tryz.f6 rfl rfl rfl rfl rfl rfl rfl ⟨rfl, rfl, rfl, rfl, rfl⟩ rfl rfl rfl rfl rfl (by kernel_rfl) Tryz.func6 (by kernel_rfl)
    (of_decide_eq_true (by kernel_rfl)) (by unfold Func.isWrapper; first | (rw [if_pos (by decide +kernel)]; kernel_rfl) | (rw [if_neg (by decide +kernel)]; exact ⟨rfl, rfl⟩))
    (fun os started H enc _ => lifted os started H enc)
end Go.Proofs.YthabclhldlikfaaGreatDoor.fnTraceStructures
namespace Go.Proofs.YthabclhldlikfaaGreatDoor
/-- The card. -/
theorem fnTraceStructuresCard_holds : Rows.FnTraceStructuresCardSaid :=
  Claim7.holds_tied_plain_at .later [] [.data] true (true, "74247c04aa4733983e0e43a80e9bb559cf15dd0b05887c89031cd735b998c015") false fnTraceStructures.over (fun _ h => by cases h) (by kernel_rfl) (fun _ h => by cases h) fnTraceStructures_row_tie rfl ⟨rfl, rfl⟩ (by kernel_rfl) rfl
    (fun f fn hf hfn => by
      obtain rfl : f = 6 := Option.some.inj ((show Tryz.prog.funcNamed "loop.example/g01094/laws.FnTraceStructures" = some 6 by kernel_rfl).symm.trans hf) |>.symm
      obtain rfl : fn = Tryz.f6 := (Option.some.inj (Tryz.func6.symm.trans hfn)).symm
      exact ⟨by kernel_rfl, fun j t ht => by
        rw [show Tryz.f6.params = #[41] by kernel_rfl] at ht
        have hm : t ∈ [41] := by simpa using Array.mem_of_getElem? ht
        have hall : ([41].all fun u => !Tryz.prog.wantsStandIn u) = true := by kernel_rfl
        exact (show Tryz.prog.wantsStandIn t = false by simpa using List.all_eq_true.1 hall t hm)⟩)
    (by kernel_rfl)
#print axioms fnTraceStructuresCard_holds
end Go.Proofs.YthabclhldlikfaaGreatDoor
