/-
  CountOrders, the program's side.
-/
import Derived.Test.YtehljilmofgioaaDoorFnOe
set_option linter.unusedVariables false
set_option linter.unusedSimpArgs false
set_option maxRecDepth 100000
set_option maxHeartbeats 1600000
namespace Go.AM
open Go.Proofs
theorem countOrders_spec (a0 a1 a2 : Bool) (x : StrucV) (hs : isStructureV x = true) (hn : x.labels.length ≤ 16) (c : Int) (hc : isM x.labels.length c = true) : ∀ (k : Nat) (d : Int), remN x.labels.length c d = k → inC x c d → ∀ m, MapOk x c hn m → ∃ m', MapOk x c hn m' ∧ ACalls2 Tryd.prog 46 [strucSl a0 a1 a2 x, iv c, iv d, .mp (mI m)] [strucSl a0 a1 a2 x, iv c, iv d, .mp (mI m')] (iv (fN x c hn d)) := by
  intro k
  induction k using Nat.strongRecOn with
  | _ k ih =>
    intro d hk hd m hm
    by_cases hdc : c = d
    · subst hdc
      refine ⟨m, hm, ?_⟩
      refine walkO (fun t => t == 4) mixed Go.Proofs.Tryd.func46 rfl rfl rfl (by kernel_rfl) (by simp) (by simp) (by simp) (by kernel_rfl) ?_
      simp [fN_end]
    · cases hl : m.lookup d with
      | some v =>
        have hv := hm d v hl hd
        subst hv
        refine ⟨m, hm, ?_⟩
        refine walkO (fun t => t == 4) mixed Go.Proofs.Tryd.func46 rfl rfl rfl (by kernel_rfl) (by simp) (by simp) (by simp) (by kernel_rfl) ?_
        simp [hdc, hl]
      | none =>
        have hmem : ∀ e, e ∈ candL x c d → e < x.labels.length ∧ canS x c d e = true := fun e he => by
          unfold candL at he
          rw [List.mem_filter, List.mem_range] at he
          exact he
        have hstep : ∀ e, e ∈ candL x c d → ∀ m, MapOk x c hn m → ∃ m', MapOk x c hn m' ∧ ACalls2 Tryd.prog 46 [strucSl a0 a1 a2 x, iv c, iv (upS d e), .mp (mI m)] [strucSl a0 a1 a2 x, iv c, iv (upS d e), .mp (mI m')] (iv (fN x c hn (upS d e))) := fun e he m hm => by
          obtain ⟨h1, h2⟩ := up_inC hn hd (hmem e he).1 (hmem e he).2
          exact ih (remN x.labels.length c (upS d e)) (by omega) (upS d e) rfl h1 m hm
        obtain ⟨nx, hnx⟩ : ∃ nx : Nat → List (Int × Value) → List (Int × Value), ∀ e, e ∈ candL x c d → ∀ m, MapOk x c hn m → MapOk x c hn (nx e m) ∧ ACalls2 Tryd.prog 46 [strucSl a0 a1 a2 x, iv c, iv (upS d e), .mp (mI m)] [strucSl a0 a1 a2 x, iv c, iv (upS d e), .mp (mI (nx e m))] (iv (fN x c hn (upS d e))) := by
          classical
          refine ⟨fun e m => if h : e ∈ candL x c d ∧ MapOk x c hn m then Classical.choose (hstep e h.1 m h.2) else m, fun e he m hm => ?_⟩
          simp only [dif_pos (show e ∈ candL x c d ∧ MapOk x c hn m from ⟨he, hm⟩)]
          exact Classical.choose_spec (hstep e he m hm)
        have hM : ∀ j, j ≤ (candL x c d).length → MapOk x c hn (((candL x c d).take j).foldl (fun m e => nx e m) m) := by
          intro j
          induction j with
          | zero => intro _; simpa using hm
          | succ j ihj =>
            intro hj
            rw [foldl_take_succ _ _ _ _ (show j < (candL x c d).length by omega)]
            exact (hnx _ (List.getElem_mem _) _ (ihj (by omega))).1
        have hMs : ∀ j (h : j < (candL x c d).length), ((candL x c d).take (j + 1)).foldl (fun m e => nx e m) m = nx (candL x c d)[j] (((candL x c d).take j).foldl (fun m e => nx e m) m) := fun j h => foldl_take_succ _ _ _ _ h
        have hfs := fN_sum hn hc hd (fun h => hdc h.symm)
        have hSb := fun j hj => sumL_bd (f := fun e => fN x c hn (upS d e)) (B := 20922789888000) (candL x c d) (fun e he => fN_le hn hc (up_inC hn hd (hmem e he).1 (hmem e he).2).1) j hj
        have hSs : ∀ j (h : j < (candL x c d).length), sumL (fun e => fN x c hn (upS d e)) ((candL x c d).take (j + 1)) = sumL (fun e => fN x c hn (upS d e)) ((candL x c d).take j) + fN x c hn (upS d (candL x c d)[j]) := fun j h => by
          rw [List.take_succ_eq_append_getElem h, sumL_snoc]
        have hCl := candL_length x c d
        have hrv : (readyV x c d).length = (candL x c d).length := by simp [readyV]
        have hrn : ∀ j (h : j < (candL x c d).length), nth (readyV x c d) j = ((candL x c d)[j] : Nat) := fun j h => by
          rw [nth_at (by omega)]; simp [readyV]
        have hfb := fun e he => fN_le hn hc (up_inC hn hd (hmem e he).1 (hmem e he).2).1
        refine ⟨putI d (.int .i64 (fN x c hn d)) ((candL x c d).foldl (fun m e => nx e m) m), MapOk_put (by have := hM (candL x c d).length (Nat.le_refl _); rwa [List.take_length] at this) d, ?_⟩
        refine walkO (fun t => t == 4 || t == 1034 || t == 2042) mixed Go.Proofs.Tryd.func46 rfl rfl rfl (by kernel_rfl) (by simp) (by simp) (by simp) (by kernel_rfl) ?_
        simp [hdc, hl]
        refine ⟨_, ready_spec a0 a1 a2 x hs c d hc hd.1, ?_⟩
        simp [hrv]
        refine awp_loop2 [1, 2, 3, 4, 28, 29] [28] (fun j : Nat => [(30, iv j), (11, iv (sumL (fun e => fN x c hn (upS d e)) ((candL x c d).take j)))]) (fun j => [(1000000003, .mp (mI (((candL x c d).take j).foldl (fun m e => nx e m) m)))]) (fun j => j ≤ (candL x c d).length) (fun j => (candL x c d).length - j) 0 (weak_mk some (by simp [sumL]) (by simp) rfl) (by simp) ?_
        intro j hj
        by_cases hjl : j < (candL x c d).length
        · have hb := hSb j hj
          have hcall := (hnx _ (List.getElem_mem hjl) _ (hM j hj)).2
          have hrj := hrn j hjl
          have hss := hSs j hjl
          have hms := hMs j hjl
          have hfe := hfb _ (List.getElem_mem hjl)
          generalize hE : (candL x c d)[j] = e at *
          have heu : ibits .or .i64 d (pow1 e) = upS d e := rfl
          simp [hjl, hrv, hrj, show j + 1 ≤ (candL x c d).length from hjl]
          repeat (rw [exE_eq]; simp [hjl, hrv, hrj, show j + 1 ≤ (candL x c d).length from hjl])
          refine ⟨_, one_spec e (by omega), ?_⟩
          simp [heu]
          refine ⟨_, _, hcall, ?_⟩
          simp [wrap_id ((j : Int) + 1) (by omega) (by omega)]
          repeat (refine And.intro (by first | omega | exact ⟨by kernel_rfl, by kernel_rfl⟩) ?_)
          exact Round.mk (j + 1) (weak_mk some (by simp [hss]; exact wrap_id _ (by omega) (by omega)) (by simp [hms]) rfl) hjl (by omega)
        · obtain rfl : j = (candL x c d).length := by omega
          rw [List.take_length, ← hfs]
          simp [hrv]
theorem CountOrders_spec (a0 a1 a2 : Bool) (x : StrucV) (hx : StructureOk x) (c : Int) (hc : I64 c) : ACalls1 Tryd.prog 16 [strucSl a0 a1 a2 x, iv c] (.tup [iv (countOrdersV x c).1, iv (countOrdersV x c).2]) := by
  refine walk (fun t => t == 2 || t == 2016) mixed Go.Proofs.Tryd.func16 rfl rfl rfl (by kernel_rfl) rfl (by simp) (by kernel_rfl) ?_
  simp
  refine ⟨_, checkConfiguration_spec _ _ _ x hx c, ?_⟩
  unfold countOrdersV
  by_cases h : maskCode x c = 0
  · obtain ⟨hs, hb, hcf, _⟩ := maskCode_zero h
    obtain ⟨h1, h2, h3⟩ := struc_len hs
    obtain ⟨m', _, hcall⟩ := countOrders_spec a0 a1 a2 x hs h1 c hb _ 0 rfl ⟨isM_of (by omega) M_zero (fun i _ => by simp), fun i hi => by simp at hi⟩ [] (MapOk_nil x c h1)
    rw [fN_start x c h1 hb] at hcall
    have hord : ordN x c = bN x c h1 c := by unfold ordN; rw [dif_pos h1]
    rw [mI_nil] at hcall
    simp [h]
    refine ⟨_, _, hcall, ?_⟩
    simp [hord]
  · simp [h]
end Go.AM
