/-
  IsomorphismOf: both sides.
-/
import Derived.Test.YtimfhkglmiihgaaDoorFnIs
import Derived.Test.YtimfhkglmiihgaaDoorFnR
set_option linter.unusedVariables false
set_option linter.unusedSimpArgs false
set_option maxRecDepth 100000
set_option maxHeartbeats 1600000
namespace Go.AM
open Go.Proofs
def resG (nn : Bool) (k : Nat) : Option (List Int) → AV
  | some l => .own 1 (nn && decide (k = 0)) (ints l)
  | none => .val (.slice none 0 0)
theorem growIso_spec (a0 a1 a2 b0 b1 b2 : Bool) (x y : StrucV) (hx : isStructureV x = true) (hy : isStructureV y = true) (hxy : x.labels.length = y.labels.length) : ∀ (k : Nat) (nn : Bool) (done : List Int), imOk y done → done.length + k = x.labels.length →
    ACalls2 Tryd.prog 68 [strucSl a0 a1 a2 x, strucSl b0 b1 b2 y, .own 1 nn (ints done)] [strucSl a0 a1 a2 x, strucSl b0 b1 b2 y, .junk] (resG nn k (growV x y k done)) := by
  obtain ⟨x1, x2, x3⟩ := struc_len hx
  obtain ⟨y1, y2, y3⟩ := struc_len hy
  intro k
  induction k with
  | zero =>
    intro nn done hok hlen
    simp only [growV, resG]
    refine walkJ (fun t => t == 3 || t == 4) [false, false, true] mixed Go.Proofs.Tryd.func68 rfl rfl rfl (by kernel_rfl) (by simp) (by simp) (by simp) (by kernel_rfl) ?_
    simp
    refine ⟨_, length_spec _ _ (by unfold Fits; omega), ?_⟩
    simp
    refine ⟨_, length_spec _ _ (by unfold Fits; omega), ?_⟩
    simp [show done.length = x.below.length by omega]
  | succ k ih =>
    intro nn done hok hlen
    refine walkJ (fun t => t == 3 || t == 4 || t == 1065 || t == 2072) [false, false, true] mixed Go.Proofs.Tryd.func68 rfl rfl rfl (by kernel_rfl) (by simp) (by simp) (by simp) (by kernel_rfl) ?_
    simp
    refine ⟨_, length_spec _ _ (by unfold Fits; omega), ?_⟩
    simp
    refine ⟨_, length_spec _ _ (by unfold Fits; omega), ?_⟩
    simp [show ¬ done.length = x.below.length by omega]
    refine ⟨_, length_spec _ _ (by unfold Fits; omega), ?_⟩
    simp
    have hg : growV x y (k + 1) done = fsN (fun f => if fitV x y done f then growV x y k (done ++ [(f : Int)]) else none) y.labels.length := rfl
    generalize hG : (fun f => if fitV x y done f then growV x y k (done ++ [(f : Int)]) else none) = G at *
    refine awp_loop2 [2, 3, 4, 7, 23] [1000000002] (fun f : Nat => [(24, iv f)]) (fun _ => []) (fun f => f ≤ y.labels.length ∧ ∀ j, j < f → G j = none) (fun f => y.labels.length - f) 0 (weak_mk some (by simp) (by simp) rfl) ⟨by simp, fun j hj => by omega⟩ ?_
    rintro f ⟨hf, hp⟩
    by_cases hlt : f < y.labels.length
    · have hfb : f < y.below.length := by omega
      have hdx : done.length < x.labels.length := by omega
      have go : G f = none → f + 1 ≤ y.labels.length ∧ ∀ j, j < f + 1 → G j = none := fun h => ⟨hlt, fun j hj => by
        by_cases e : j = f
        · subst e; exact h
        · exact hp j (by omega)⟩
      have hGf : G f = if fitV x y done f then growV x y k (done ++ [(f : Int)]) else none := by rw [← hG]
      have noG : fitV x y done f = false → G f = none := fun h => by rw [hGf, h]; rfl
      simp [hfb, hlt, hdx]
      refine ⟨_, Contains_spec _ _ (by unfold Fits; omega) _, ?_⟩
      by_cases hc : (f : Int) ∈ done
      · simp [hc, wrap_id ((f : Int) + 1) (by omega) (by omega)]
        exact Round.mk (f + 1) (weak_mk some (by simp) (by simp) rfl) (go (noG (by unfold fitV; simp [hc]))) (by omega)
      · by_cases hl : nth x.labels done.length = nth y.labels f
        · simp [hc, hl, hlt, hdx]
          repeat (rw [exE_eq]; simp [hc, hl, hlt, hdx])
          refine awp_loop2 [2, 3, 4, 7, 8, 23, 24, 43, 44] [1000000002] (fun s : Nat × Bool => [(45, iv s.1), (9, bv s.2)]) (fun _ => []) (fun s => s.1 ≤ done.length ∧ (s.2 = true ↔ ∀ d, d < s.1 → relOf x d done.length = relOf y (nth done d).toNat f)) (fun s => done.length - s.1) (0, true) (weak_mk some (by simp) (by simp) rfl) ⟨by simp, by simp⟩ ?_
          rintro ⟨d, b⟩ ⟨hd, hb⟩
          simp only at hd hb
          by_cases hdl : d < done.length
          · obtain ⟨g, hg', hgn⟩ := hok d hdl
            have stp : ∀ b', (b' = true ↔ b = true ∧ relOf x d done.length = relOf y g f) → d + 1 ≤ done.length ∧ (b' = true ↔ ∀ e, e < d + 1 → relOf x e done.length = relOf y (nth done e).toNat f) := fun b' h => ⟨hdl, by
              rw [h, hb]
              constructor
              · rintro ⟨h1, h2⟩ e he
                by_cases e2 : e = d
                · subst e2; rw [hg', Int.toNat_natCast]; exact h2
                · exact h1 e (by omega)
              · intro h1
                refine ⟨fun e he => h1 e (by omega), ?_⟩
                have := h1 d (by omega)
                rwa [hg', Int.toNat_natCast] at this⟩
            cases b
            · simp [hdl, hg', show d + 1 ≤ done.length from hdl, wrap_id ((d : Int) + 1) (by omega) (by omega)]
              repeat (rw [exE_eq]; simp [hdl, hg', show d + 1 ≤ done.length from hdl, wrap_id ((d : Int) + 1) (by omega) (by omega)])
              exact Round.mk ((d + 1, false)) (weak_mk some (by simp) (by simp) rfl) (stp false (by simp)) (by simp only; omega)
            · simp [hdl, hg', show d + 1 ≤ done.length from hdl]
              repeat (rw [exE_eq]; simp [hdl, hg', show d + 1 ≤ done.length from hdl])
              refine ⟨_, relation_spec _ _ _ x hx d done.length (by omega) hdx, ?_⟩
              simp
              repeat (rw [exE_eq]; simp)
              refine ⟨_, relation_spec _ _ _ y hy g f hgn hlt, ?_⟩
              simp [wrap_id ((d : Int) + 1) (by omega) (by omega)]
              repeat (refine And.intro (by first | omega | exact ⟨by kernel_rfl, by kernel_rfl⟩) ?_)
              exact Round.mk ((d + 1, relOf x d done.length == relOf y g f)) (weak_mk some (by simp) (by simp) rfl) (stp _ (by simp)) (by simp only; omega)
          · obtain rfl : d = done.length := by omega
            cases b
            · have hno : fitV x y done f = false := by
                rw [← Bool.not_eq_true]
                intro hy'
                unfold fitV at hy'
                simp only [Bool.and_eq_true, List.all_eq_true, List.mem_range, beq_iff_eq] at hy'
                have := hb.2 hy'.2
                cases this
              simp [wrap_id ((f : Int) + 1) (by omega) (by omega)]
              exact Round.mk (f + 1) (weak_mk some (by simp) (by simp) rfl) (go (noG hno)) (by omega)
            · have hyes : fitV x y done f = true := fitV_yes hl hc (hb.1 rfl)
              rw [hyes, if_pos rfl] at hGf
              have hcall := ih false (done ++ [(f : Int)]) (imOk_snoc hok hlt) (by simp; omega)
              rw [← hGf] at hcall
              simp
              repeat (rw [exE_eq]; simp)
              refine ⟨_, Clone_spec _ _ (by unfold Fits; omega), ?_⟩
              simp
              refine ⟨by omega, by omega, ?_⟩
              cases hR : G f with
              | none =>
                rw [hR] at hcall
                refine ⟨_, _, hcall, ?_⟩
                simp [resG, wrap_id ((f : Int) + 1) (by omega) (by omega)]
                repeat (refine And.intro (by first | omega | exact ⟨by kernel_rfl, by kernel_rfl⟩) ?_)
                exact Round.mk (f + 1) (weak_mk some (by simp) (by simp) rfl) (go hR) (by omega)
              | some l =>
                rw [hR] at hcall
                obtain ⟨l1, l2⟩ := growV_ok k _ l (imOk_snoc hok hlt) (by rw [← hGf, hR])
                obtain ⟨z, l', rfl⟩ : ∃ z l', l = z :: l' := by
                  cases l with
                  | nil => simp at l2; omega
                  | cons z l' => exact ⟨z, l', rfl⟩
                rw [hg, fsN_some hlt hp hR]
                refine ⟨_, _, hcall, ?_⟩
                simp [resG, ints_cons]
                first | refine ⟨⟨by kernel_rfl, by kernel_rfl⟩, ?_⟩ | exact ⟨by kernel_rfl, by kernel_rfl⟩
        · simp [hc, hl, hlt, hdx, wrap_id ((f : Int) + 1) (by omega) (by omega)]
          repeat (rw [exE_eq]; simp [hc, hl, hlt, hdx, wrap_id ((f : Int) + 1) (by omega) (by omega)])
          exact Round.mk (f + 1) (weak_mk some (by simp) (by simp) rfl) (go (noG (by unfold fitV; simp [hl]))) (by omega)
    · obtain rfl : f = y.labels.length := by omega
      rw [hg, fsN_none hp]
      simp [y2, resG]
theorem l16Fits_spec (a0 a1 a2 b0 b1 b2 nn : Bool) (x y : StrucV) (hx : isStructureV x = true) (hy : isStructureV y = true) (hxy : x.labels.length = y.labels.length) (done : List Int) (hok : imOk y done) (hdx : done.length < x.labels.length) (f : Nat) (hlt : f < y.labels.length) :
    ACalls1 Tryd.prog 131 [strucSl a0 a1 a2 x, strucSl b0 b1 b2 y, .sl 1 nn (ints done), iv f] (bv (fitV x y done f)) := by
  obtain ⟨x1, x2, x3⟩ := struc_len hx
  obtain ⟨y1, y2, y3⟩ := struc_len hy
  refine walk (fun t => t == 4 || t == 5) mixed Go.Proofs.Tryd.func131 rfl rfl rfl (by kernel_rfl) rfl (by simp) (by kernel_rfl) ?_
  by_cases hl : nth x.labels done.length = nth y.labels f
  · simp [hl, hlt, hdx]
    repeat (rw [exE_eq]; simp [hl, hlt, hdx])
    refine ⟨_, l01Has_spec _ _ (by unfold Fits; omega) _, ?_⟩
    by_cases hc : (f : Int) ∈ done
    · simp [hc, fitV]
    · simp [hc]
      refine awp_loop2 [2, 3, 4, 5, 9] [] (fun d : Nat => [(10, iv d)]) (fun _ => []) (fun d => d ≤ done.length ∧ ∀ e, e < d → relOf x e done.length = relOf y (nth done e).toNat f) (fun d => done.length - d) 0 (weak_mk some (by simp) (by simp) rfl) ⟨by simp, by simp⟩ ?_
      rintro d ⟨hd, hp⟩
      by_cases hdl : d < done.length
      · obtain ⟨g, hg', hgn⟩ := hok d hdl
        simp [hdl]
        repeat (rw [exE_eq]; simp [hdl])
        refine ⟨_, l16Relation_spec _ _ _ x hx d done.length (by omega) hdx, ?_⟩
        simp [hdl, hg']
        repeat (rw [exE_eq]; simp [hdl, hg'])
        refine ⟨_, l16Relation_spec _ _ _ y hy g f hgn hlt, ?_⟩
        by_cases hr : relOf x d done.length = relOf y g f
        · simp [hr, wrap_id ((d : Int) + 1) (by omega) (by omega)]
          repeat (refine And.intro (by first | omega | exact ⟨by kernel_rfl, by kernel_rfl⟩) ?_)
          refine Round.mk (d + 1) (weak_mk some (by simp) (by simp) rfl) ⟨hdl, fun e he => ?_⟩ (by omega)
          by_cases e2 : e = d
          · subst e2; rw [hg', Int.toNat_natCast]; exact hr
          · exact hp e (by omega)
        · simp [hr]
          repeat (refine And.intro (by first | omega | exact ⟨by kernel_rfl, by kernel_rfl⟩) ?_)
          exact fitV_no hdl (by rw [hg', Int.toNat_natCast]; exact hr)
      · obtain rfl : d = done.length := by omega
        simp
        exact fitV_yes hl hc hp
  · have : fitV x y done f = false := by unfold fitV; simp [hl]
    simp [hl, hlt, hdx, this]
    repeat (rw [exE_eq]; simp [hl, hlt, hdx, this])
def resM : Option (List Int) → AV
  | some l => .tup [.own 1 false (ints l), bv true]
  | none => .tup [.val (.slice none 0 0), bv false]
theorem l16Match_spec (a0 a1 a2 b0 b1 b2 : Bool) (x y : StrucV) (hx : isStructureV x = true) (hy : isStructureV y = true) (hxy : x.labels.length = y.labels.length) : ∀ (k : Nat) (nn : Bool) (done : List Int), imOk y done → done.length + k = x.labels.length →
    ACalls2 Tryd.prog 65 [strucSl a0 a1 a2 x, strucSl b0 b1 b2 y, .own 1 nn (ints done)] [strucSl a0 a1 a2 x, strucSl b0 b1 b2 y, .junk] (resM (growV x y k done)) := by
  obtain ⟨x1, x2, x3⟩ := struc_len hx
  obtain ⟨y1, y2, y3⟩ := struc_len hy
  intro k
  induction k with
  | zero =>
    intro nn done hok hlen
    simp only [growV, resM]
    refine walkJ (fun t => t == 3 || t == 4) [false, false, true] mixed Go.Proofs.Tryd.func65 rfl rfl rfl (by kernel_rfl) (by simp) (by simp) (by simp) (by kernel_rfl) ?_
    simp
    refine ⟨_, l16Size_spec _ _ _ x, ?_⟩
    simp [show done.length = x.labels.length by omega]
  | succ k ih =>
    intro nn done hok hlen
    refine walkJ (fun t => t == 3 || t == 4 || t == 1030 || t == 2037) [false, false, true] mixed Go.Proofs.Tryd.func65 rfl rfl rfl (by kernel_rfl) (by simp) (by simp) (by simp) (by kernel_rfl) ?_
    simp
    refine ⟨_, l16Size_spec _ _ _ x, ?_⟩
    simp [show ¬ done.length = x.labels.length by omega]
    have hg : growV x y (k + 1) done = fsN (fun f => if fitV x y done f then growV x y k (done ++ [(f : Int)]) else none) y.labels.length := rfl
    generalize hG : (fun f => if fitV x y done f then growV x y k (done ++ [(f : Int)]) else none) = G at *
    refine awp_loop2 [2, 3, 4] [1000000002] (fun f : Nat => [(8, iv f)]) (fun _ => []) (fun f => f ≤ y.labels.length ∧ ∀ j, j < f → G j = none) (fun f => y.labels.length - f) 0 (weak_mk some (by simp) (by simp) rfl) ⟨by simp, fun j hj => by omega⟩ ?_
    rintro f ⟨hf, hp⟩
    simp
    refine ⟨_, l16Size_spec _ _ _ y, ?_⟩
    by_cases hlt : f < y.labels.length
    · have hdx : done.length < x.labels.length := by omega
      have go : G f = none → f + 1 ≤ y.labels.length ∧ ∀ j, j < f + 1 → G j = none := fun h => ⟨hlt, fun j hj => by
        by_cases e : j = f
        · subst e; exact h
        · exact hp j (by omega)⟩
      have hGf : G f = if fitV x y done f then growV x y k (done ++ [(f : Int)]) else none := by rw [← hG]
      simp [hlt]
      refine ⟨_, l16Fits_spec _ _ _ _ _ _ _ x y hx hy hxy done hok hdx f hlt, ?_⟩
      cases hfit : fitV x y done f
      · simp [wrap_id ((f : Int) + 1) (by omega) (by omega)]
        exact Round.mk (f + 1) (weak_mk some (by simp) (by simp) rfl) (go (by rw [hGf, hfit]; rfl)) (by omega)
      · rw [hfit, if_pos rfl] at hGf
        have hcall := ih true (done ++ [(f : Int)]) (imOk_snoc hok hlt) (by simp; omega)
        rw [← hGf] at hcall
        simp
        repeat (rw [exE_eq]; simp)
        refine ⟨_, l01Own_spec _ _ (by unfold Fits; omega), ?_⟩
        simp
        refine ⟨by omega, by omega, ?_⟩
        cases hR : G f with
        | none =>
          rw [hR] at hcall
          refine ⟨_, _, hcall, ?_⟩
          simp [resM, wrap_id ((f : Int) + 1) (by omega) (by omega)]
          repeat (refine And.intro (by first | omega | exact ⟨by kernel_rfl, by kernel_rfl⟩) ?_)
          exact Round.mk (f + 1) (weak_mk some (by simp) (by simp) rfl) (go hR) (by omega)
        | some l =>
          rw [hR] at hcall
          rw [hg, fsN_some hlt hp hR]
          refine ⟨_, _, hcall, ?_⟩
          simp [resM]
          first | refine ⟨⟨by kernel_rfl, by kernel_rfl⟩, ?_⟩ | exact ⟨by kernel_rfl, by kernel_rfl⟩
    · obtain rfl : f = y.labels.length := by omega
      rw [hg, fsN_none hp]
      simp [resM]
/-- A nil slice handed over. -/
theorem ACalls2.nil3 {P : Program} {f : FuncId} {a b a' b' : AV} {r : AV} (h : ACalls2 P f [a, b, .own 1 false []] [a', b', .junk] r) : ACalls2 P f [a, b, .val (.slice none 0 0)] [a', b', .junk] r := by
  obtain ⟨h1, h2⟩ := h
  refine ⟨h1, fun w I B vs hI hG hr hn hB => h2 w I B vs hI hG ?_ hn hB⟩
  simp only [RepL] at hr ⊢
  obtain ⟨B₁, B₂, v, vs', e1, e2, h1, B₃, B₄, v2, vs2, e3, e4, h3, B₅, B₆, v3, vs3, e5, e6, h5, h6⟩ := hr
  refine ⟨B₁, B₂, v, vs', e1, e2, h1, B₃, B₄, v2, vs2, e3, e4, h3, B₅, B₆, v3, vs3, e5, e6, ?_, h6⟩
  simp only [Rep] at h5 ⊢
  exact .inl ⟨h5.2, trivial, trivial, h5.1⟩
theorem IsomorphismOf_spec (a0 a1 a2 : Bool) (x : StrucV) (hx : StructureOk x) (b0 b1 b2 : Bool) (y : StrucV) (hy : StructureOk y) : ACalls1 Tryd.prog 14 [strucSl a0 a1 a2 x, strucSl b0 b1 b2 y] (.tup [.own 1 false (ints (isomorphismOfV x y).1), iv (isomorphismOfV x y).2]) := by
  refine walk (fun t => t == 2 || t == 3 || t == 2025) mixed Go.Proofs.Tryd.func14 rfl rfl rfl (by kernel_rfl) rfl (by simp) (by kernel_rfl) ?_
  simp
  refine ⟨_, IsStructure_spec _ _ _ x hx, ?_⟩
  unfold isomorphismOfV
  cases hsx : isStructureV x
  · simp
  · simp
    refine ⟨_, IsStructure_spec _ _ _ y hy, ?_⟩
    cases hsy : isStructureV y
    · simp
    · obtain ⟨x1, x2, x3⟩ := struc_len hsx
      obtain ⟨y1, y2, y3⟩ := struc_len hsy
      by_cases hl : x.labels.length = y.labels.length
      · have hcall := growIso_spec a0 a1 a2 b0 b1 b2 x y hsx hsy hl x.labels.length true [] (imOk_nil y) (by simp)
        simp only [ints_nil] at hcall
        simp [hl, x2, y2]
        rw [hl] at hcall
        cases hR : growV x y y.labels.length [] with
        | none =>
          rw [hR] at hcall
          refine ⟨_, _, hcall, ?_⟩
          simp [resG]
        | some l =>
          rw [hR] at hcall
          obtain ⟨l1, l2⟩ := growV_ok _ _ l (imOk_nil y) hR
          refine ⟨_, _, hcall, ?_⟩
          cases l with
          | nil =>
            have : y.labels.length = 0 := by simpa using l2.symm
            simp [resG, this]
          | cons z l' => simp [resG, ints_cons]
      · simp [hl, x2, y2]
theorem specIsomorphismOf_spec (a0 a1 a2 : Bool) (x : StrucV) (hx : StructureOk x) (b0 b1 b2 : Bool) (y : StrucV) (hy : StructureOk y) : ACalls1 Tryd.prog 12 [strucSl a0 a1 a2 x, strucSl b0 b1 b2 y] (.tup [.own 1 false (ints (isomorphismOfV x y).1), iv (isomorphismOfV x y).2]) := by
  refine walk (fun t => t == 2 || t == 3 || t == 2024) mixed Go.Proofs.Tryd.func12 rfl rfl rfl (by kernel_rfl) rfl (by simp) (by kernel_rfl) ?_
  simp
  refine ⟨_, l16Is_spec _ _ _ x, ?_⟩
  unfold isomorphismOfV
  cases hsx : isStructureV x
  · simp
  · simp
    refine ⟨_, l16Is_spec _ _ _ y, ?_⟩
    cases hsy : isStructureV y
    · simp
    · simp
      refine ⟨_, l16Size_spec _ _ _ x, ?_⟩
      simp
      refine ⟨_, l16Size_spec _ _ _ y, ?_⟩
      by_cases hl : x.labels.length = y.labels.length
      · have hcall := l16Match_spec a0 a1 a2 b0 b1 b2 x y hsx hsy hl x.labels.length false [] (imOk_nil y) (by simp)
        simp only [ints_nil] at hcall
        have hcall := hcall.nil3
        rw [hl] at hcall
        simp [hl]
        repeat (refine And.intro (by first | omega | exact ⟨by kernel_rfl, by kernel_rfl⟩) ?_)
        cases hR : growV x y y.labels.length [] with
        | none =>
          rw [hR] at hcall
          refine ⟨_, _, hcall, ?_⟩
          simp [resM]
        | some l =>
          rw [hR] at hcall
          refine ⟨_, _, hcall, ?_⟩
          simp [resM]
      · simp [hl]
theorem markStructureX (a0 a1 a2 : Bool) (x : StrucV) (k : Int) (h : StructureOk x) (h0 : 0 ≤ k) (h1 : k ≤ 70368744177664) : ACalls2 Tryd.prog 17 [strucOw a0 a1 a2 x, iv k] [strucOw a0 a1 a2 (markedStructure x k), iv k] (iv (k + x.below.length + x.clash.length + x.labels.length)) := by
  have f0 := h.1.1
  have g0 := f0
  unfold Fits at g0
  have f1 := h.2.1.1
  have g1 := f1
  unfold Fits at g1
  have f2 := h.2.2.1
  have g2 := f2
  unfold Fits at g2
  refine walkO (fun t => t == 2008 || t == 2012 || t == 2016) mixed Go.Proofs.Tryd.func17 rfl rfl rfl (by kernel_rfl) (by simp) (by simp) (by simp) (by kernel_rfl) ?_
  simp
  refine ⟨_, _, markInt64S_spec a0 x.below (k) f0 (by omega) (by omega), ?_⟩
  simp
  refine ⟨_, _, markInt64S_spec a1 x.clash (k + x.below.length) f1 (by omega) (by omega), ?_⟩
  simp
  refine ⟨_, _, markInt64S_spec a2 x.labels (k + x.below.length + x.clash.length) f2 (by omega) (by omega), ?_⟩
  simp [markedStructure]
theorem IsomorphismOf_fits (x : StrucV) (hx : StructureOk x) (y : StrucV) (hy : StructureOk y) : ListOk (isomorphismOfV x y).1 := by
  unfold isomorphismOfV
  split
  · rename_i h
    simp only [Bool.and_eq_true] at h
    obtain ⟨y1, y2, y3⟩ := struc_len h.2
    split
    · rename_i hl
      cases hR : growV x y x.labels.length [] with
      | none => simp [ListOk, Fits]
      | some l =>
        obtain ⟨l1, l2⟩ := growV_ok _ _ l (imOk_nil y) hR
        refine ⟨by simp only [Fits]; simp at l2; omega, fun z hz => ?_⟩
        have := imOk_list y1 l1 z hz
        unfold I64; omega
    · simp [ListOk, Fits]
  · simp [ListOk, Fits]
end Go.AM
