/-
  Several texts in one: FnIs FnIt FnUm FnUn FnUp FnUq FnUr.
-/
import Derived.Test.YthabclhldlikfaaDoorFnW
import Derived.Test.YthabclhldlikfaaDoorFnR
import Derived.Test.YthabclhldlikfaaDoorFnNd
set_option linter.unusedVariables false
set_option linter.unusedSimpArgs false
set_option linter.unusedSectionVars false
set_option maxRecDepth 100000
set_option maxHeartbeats 1600000
namespace Go.AM
open Go.Proofs
/-- The first that has one. -/
def fsN {α : Type} (g : Nat → Option α) : Nat → Option α
  | 0 => none
  | n + 1 => match fsN g n with
    | some r => some r
    | none => g n
theorem fsN_none {α : Type} {g : Nat → Option α} : ∀ {n : Nat}, (∀ f, f < n → g f = none) → fsN g n = none
  | 0, _ => rfl
  | n + 1, h => by rw [fsN, fsN_none (fun f hf => h f (by omega))]; exact h n (by omega)
theorem fsN_some {α : Type} {g : Nat → Option α} {f : Nat} {r : α} : ∀ {n : Nat}, f < n → (∀ k, k < f → g k = none) → g f = some r → fsN g n = some r
  | 0, h, _, _ => by omega
  | n + 1, h, hp, hf => by
    by_cases e : f = n
    · subst e; rw [fsN, fsN_none hp]; exact hf
    · rw [fsN, fsN_some (by omega) hp hf]
/-- Whether an image keeps all. -/
def fitV (x y : StrucV) (done : List Int) (f : Nat) : Bool :=
  (nth x.labels done.length == nth y.labels f) && !(decide ((f : Int) ∈ done)) && (List.range done.length).all fun d => relOf x d done.length == relOf y (nth done d).toNat f
/-- The first images, `k` still missing. -/
def growV (x y : StrucV) : Nat → List Int → Option (List Int)
  | 0, done => some done
  | k + 1, done => fsN (fun f => if fitV x y done f then growV x y k (done ++ [(f : Int)]) else none) y.labels.length
def isomorphismOfV (x y : StrucV) : List Int × Int :=
  if isStructureV x && isStructureV y then (if x.labels.length = y.labels.length then (match growV x y x.labels.length [] with | some l => (l, 0) | none => ([], 4)) else ([], 4)) else ([], 1)
/-- Images are events. -/
def imOk (y : StrucV) (done : List Int) : Prop := ∀ d, d < done.length → ∃ k : Nat, nth done d = k ∧ k < y.labels.length
theorem imOk_snoc {y : StrucV} {done : List Int} (h : imOk y done) {f : Nat} (hf : f < y.labels.length) : imOk y (done ++ [(f : Int)]) := by
  intro d hd
  rw [List.length_append, List.length_singleton] at hd
  by_cases e : d < done.length
  · obtain ⟨k, hk, hkn⟩ := h d e
    exact ⟨k, by rw [nth_at (by simp; omega), List.getElem_append_left e, ← nth_at e]; exact hk, hkn⟩
  · obtain rfl : d = done.length := by omega
    exact ⟨f, by rw [nth_at (by simp)]; simp, hf⟩
theorem imOk_nil (y : StrucV) : imOk y [] := fun d hd => by simp at hd
theorem growV_ok {x y : StrucV} : ∀ (k : Nat) (done l : List Int), imOk y done → growV x y k done = some l → imOk y l ∧ l.length = done.length + k
  | 0, done, l, h, hl => by
    simp only [growV, Option.some.injEq] at hl
    subst hl; exact ⟨h, rfl⟩
  | k + 1, done, l, h, hl => by
    have key : ∀ n, n ≤ y.labels.length → fsN (fun f => if fitV x y done f then growV x y k (done ++ [(f : Int)]) else none) n = some l → ∃ f, f < n ∧ growV x y k (done ++ [(f : Int)]) = some l := by
      intro n
      induction n with
      | zero => intro _ h; simp [fsN] at h
      | succ n ih =>
        intro hn h
        rw [fsN] at h
        cases hq : fsN (fun f => if fitV x y done f then growV x y k (done ++ [(f : Int)]) else none) n with
        | some r =>
          rw [hq] at h
          simp only [Option.some.injEq] at h
          subst h
          obtain ⟨f, hf, e⟩ := ih (by omega) hq
          exact ⟨f, by omega, e⟩
        | none =>
          rw [hq] at h
          simp only at h
          split at h
          · exact ⟨n, by omega, h⟩
          · cases h
    obtain ⟨f, hf, e⟩ := key _ (Nat.le_refl _) hl
    obtain ⟨h1, h2⟩ := growV_ok k _ l (imOk_snoc h hf) e
    exact ⟨h1, by rw [h2]; simp; omega⟩
theorem imOk_list {y : StrucV} (hn : y.labels.length ≤ 16) {l : List Int} (h : imOk y l) : ∀ z ∈ l, 0 ≤ z ∧ z < 16 := fun z hz => by
  obtain ⟨i, hi, rfl⟩ := List.mem_iff_getElem.1 hz
  obtain ⟨k, hk, hkn⟩ := h i hi
  rw [← nth_at hi, hk]; omega
theorem fitV_no {x y : StrucV} {done : List Int} {f d : Nat} (hd : d < done.length) (h : relOf x d done.length ≠ relOf y (nth done d).toNat f) : fitV x y done f = false := by
  unfold fitV
  rw [← Bool.not_eq_true]
  simp only [Bool.and_eq_true, List.all_eq_true, List.mem_range, beq_iff_eq]
  intro h2
  exact h (h2.2 d hd)
theorem fitV_yes {x y : StrucV} {done : List Int} {f : Nat} (h1 : nth x.labels done.length = nth y.labels f) (h2 : ¬ (f : Int) ∈ done) (h3 : ∀ d, d < done.length → relOf x d done.length = relOf y (nth done d).toNat f) : fitV x y done f = true := by
  unfold fitV
  simp only [Bool.and_eq_true, List.all_eq_true, List.mem_range, beq_iff_eq, Bool.not_eq_true', decide_eq_false_iff_not]
  exact ⟨⟨h1, h2⟩, h3⟩
def resG (nn : Bool) (k : Nat) : Option (List Int) → AV
  | some l => .own 1 (nn && decide (k = 0)) (ints l)
  | none => .val (.slice none 0 0)
theorem growIso_spec (a0 a1 a2 b0 b1 b2 : Bool) (x y : StrucV) (hx : isStructureV x = true) (hy : isStructureV y = true) (hxy : x.labels.length = y.labels.length) : ∀ (k : Nat) (nn : Bool) (done : List Int), imOk y done → done.length + k = x.labels.length →
    ACalls2 Tryd.prog 17 [strucSl a0 a1 a2 x, strucSl b0 b1 b2 y, .own 1 nn (ints done)] [strucSl a0 a1 a2 x, strucSl b0 b1 b2 y, .junk] (resG nn k (growV x y k done)) := by
  obtain ⟨x1, x2, x3⟩ := struc_len hx
  obtain ⟨y1, y2, y3⟩ := struc_len hy
  intro k
  induction k with
  | zero =>
    intro nn done hok hlen
    simp only [growV, resG]
    refine walkJ (fun t => t == 3 || t == 4) [false, false, true] mixed Go.Proofs.Tryd.func17 rfl rfl rfl (by kernel_rfl) (by simp) (by simp) (by simp) (by kernel_rfl) ?_
    simp
    refine ⟨_, length_spec _ _ (by unfold Fits; omega), ?_⟩
    simp
    refine ⟨_, length_spec _ _ (by unfold Fits; omega), ?_⟩
    simp [show done.length = x.below.length by omega]
  | succ k ih =>
    intro nn done hok hlen
    refine walkJ (fun t => t == 3 || t == 4 || t == 1065 || t == 2072) [false, false, true] mixed Go.Proofs.Tryd.func17 rfl rfl rfl (by kernel_rfl) (by simp) (by simp) (by simp) (by kernel_rfl) ?_
    simp
    refine ⟨_, length_spec _ _ (by unfold Fits; omega), ?_⟩
    simp
    refine ⟨_, length_spec _ _ (by unfold Fits; omega), ?_⟩
    simp [show ¬ done.length = x.below.length by omega]
    refine ⟨_, length_spec _ _ (by unfold Fits; omega), ?_⟩
    simp
    have hg : growV x y (k + 1) done = fsN (fun f => if fitV x y done f then growV x y k (done ++ [(f : Int)]) else none) y.labels.length := rfl
    generalize hG : (fun f => if fitV x y done f then growV x y k (done ++ [(f : Int)]) else none) = G at *
    refine awp_loop2 [2, 3, 4, 7, 23] [1000000002] (fun f : Nat => [(24, iv f)]) (fun _ => []) (fun f => f ≤ y.labels.length ∧ ∀ j, j < f → G j = none) (fun f => y.labels.length - f) 0 (weak_mk some (by simp) (by simp) rfl) ⟨by simp, fun j hj => by omega⟩ ?_
    rintro f ⟨hf, hp⟩
    by_cases hlt : f < y.labels.length
    · have hfb : f < y.below.length := by omega
      have hdx : done.length < x.labels.length := by omega
      have go : G f = none → f + 1 ≤ y.labels.length ∧ ∀ j, j < f + 1 → G j = none := fun h => ⟨hlt, fun j hj => by
        by_cases e : j = f
        · subst e; exact h
        · exact hp j (by omega)⟩
      have hGf : G f = if fitV x y done f then growV x y k (done ++ [(f : Int)]) else none := by rw [← hG]
      have noG : fitV x y done f = false → G f = none := fun h => by rw [hGf, h]; rfl
      simp [hfb, hlt, hdx]
      refine ⟨_, Contains_spec _ _ (by unfold Fits; omega) _, ?_⟩
      by_cases hc : (f : Int) ∈ done
      · simp [hc, wrap_id ((f : Int) + 1) (by omega) (by omega)]
        exact Round.mk (f + 1) (weak_mk some (by simp) (by simp) rfl) (go (noG (by unfold fitV; simp [hc]))) (by omega)
      · by_cases hl : nth x.labels done.length = nth y.labels f
        · simp [hc, hl, hlt, hdx]
          repeat (rw [exE_eq]; simp [hc, hl, hlt, hdx])
          refine awp_loop2 [2, 3, 4, 7, 8, 23, 24, 43, 44] [1000000002] (fun s : Nat × Bool => [(45, iv s.1), (9, bv s.2)]) (fun _ => []) (fun s => s.1 ≤ done.length ∧ (s.2 = true ↔ ∀ d, d < s.1 → relOf x d done.length = relOf y (nth done d).toNat f)) (fun s => done.length - s.1) (0, true) (weak_mk some (by simp) (by simp) rfl) ⟨by simp, by simp⟩ ?_
          rintro ⟨d, b⟩ ⟨hd, hb⟩
          simp only at hd hb
          by_cases hdl : d < done.length
          · obtain ⟨g, hg', hgn⟩ := hok d hdl
            have stp : ∀ b', (b' = true ↔ b = true ∧ relOf x d done.length = relOf y g f) → d + 1 ≤ done.length ∧ (b' = true ↔ ∀ e, e < d + 1 → relOf x e done.length = relOf y (nth done e).toNat f) := fun b' h => ⟨hdl, by
              rw [h, hb]
              constructor
              · rintro ⟨h1, h2⟩ e he
                by_cases e2 : e = d
                · subst e2; rw [hg', Int.toNat_natCast]; exact h2
                · exact h1 e (by omega)
              · intro h1
                refine ⟨fun e he => h1 e (by omega), ?_⟩
                have := h1 d (by omega)
                rwa [hg', Int.toNat_natCast] at this⟩
            cases b
            · simp [hdl, hg', show d + 1 ≤ done.length from hdl, wrap_id ((d : Int) + 1) (by omega) (by omega)]
              repeat (rw [exE_eq]; simp [hdl, hg', show d + 1 ≤ done.length from hdl, wrap_id ((d : Int) + 1) (by omega) (by omega)])
              exact Round.mk ((d + 1, false)) (weak_mk some (by simp) (by simp) rfl) (stp false (by simp)) (by simp only; omega)
            · simp [hdl, hg', show d + 1 ≤ done.length from hdl]
              repeat (rw [exE_eq]; simp [hdl, hg', show d + 1 ≤ done.length from hdl])
              refine ⟨_, relation_spec _ _ _ x hx d done.length (by omega) hdx, ?_⟩
              simp
              repeat (rw [exE_eq]; simp)
              refine ⟨_, relation_spec _ _ _ y hy g f hgn hlt, ?_⟩
              simp [wrap_id ((d : Int) + 1) (by omega) (by omega)]
              repeat (refine And.intro (by first | omega | exact ⟨by kernel_rfl, by kernel_rfl⟩) ?_)
              exact Round.mk ((d + 1, relOf x d done.length == relOf y g f)) (weak_mk some (by simp) (by simp) rfl) (stp _ (by simp)) (by simp only; omega)
          · obtain rfl : d = done.length := by omega
            cases b
            · have hno : fitV x y done f = false := by
                rw [← Bool.not_eq_true]
                intro hy'
                unfold fitV at hy'
                simp only [Bool.and_eq_true, List.all_eq_true, List.mem_range, beq_iff_eq] at hy'
                have := hb.2 hy'.2
                cases this
              simp [wrap_id ((f : Int) + 1) (by omega) (by omega)]
              exact Round.mk (f + 1) (weak_mk some (by simp) (by simp) rfl) (go (noG hno)) (by omega)
            · have hyes : fitV x y done f = true := fitV_yes hl hc (hb.1 rfl)
              rw [hyes, if_pos rfl] at hGf
              have hcall := ih false (done ++ [(f : Int)]) (imOk_snoc hok hlt) (by simp; omega)
              rw [← hGf] at hcall
              simp
              repeat (rw [exE_eq]; simp)
              refine ⟨_, Clone_spec _ _ (by unfold Fits; omega), ?_⟩
              simp
              refine ⟨by omega, by omega, ?_⟩
              cases hR : G f with
              | none =>
                rw [hR] at hcall
                refine ⟨_, _, hcall, ?_⟩
                simp [resG, wrap_id ((f : Int) + 1) (by omega) (by omega)]
                repeat (refine And.intro (by first | omega | exact ⟨by kernel_rfl, by kernel_rfl⟩) ?_)
                exact Round.mk (f + 1) (weak_mk some (by simp) (by simp) rfl) (go hR) (by omega)
              | some l =>
                rw [hR] at hcall
                obtain ⟨l1, l2⟩ := growV_ok k _ l (imOk_snoc hok hlt) (by rw [← hGf, hR])
                obtain ⟨z, l', rfl⟩ : ∃ z l', l = z :: l' := by
                  cases l with
                  | nil => simp at l2; omega
                  | cons z l' => exact ⟨z, l', rfl⟩
                rw [hg, fsN_some hlt hp hR]
                refine ⟨_, _, hcall, ?_⟩
                simp [resG, ints_cons]
                first | refine ⟨⟨by kernel_rfl, by kernel_rfl⟩, ?_⟩ | exact ⟨by kernel_rfl, by kernel_rfl⟩
        · simp [hc, hl, hlt, hdx, wrap_id ((f : Int) + 1) (by omega) (by omega)]
          repeat (rw [exE_eq]; simp [hc, hl, hlt, hdx, wrap_id ((f : Int) + 1) (by omega) (by omega)])
          exact Round.mk (f + 1) (weak_mk some (by simp) (by simp) rfl) (go (noG (by unfold fitV; simp [hl]))) (by omega)
    · obtain rfl : f = y.labels.length := by omega
      rw [hg, fsN_none hp]
      simp [y2, resG]
theorem l16Fits_spec (a0 a1 a2 b0 b1 b2 nn : Bool) (x y : StrucV) (hx : isStructureV x = true) (hy : isStructureV y = true) (hxy : x.labels.length = y.labels.length) (done : List Int) (hok : imOk y done) (hdx : done.length < x.labels.length) (f : Nat) (hlt : f < y.labels.length) :
    ACalls1 Tryd.prog 38 [strucSl a0 a1 a2 x, strucSl b0 b1 b2 y, .sl 1 nn (ints done), iv f] (bv (fitV x y done f)) := by
  obtain ⟨x1, x2, x3⟩ := struc_len hx
  obtain ⟨y1, y2, y3⟩ := struc_len hy
  refine walk (fun t => t == 4 || t == 5) mixed Go.Proofs.Tryd.func38 rfl rfl rfl (by kernel_rfl) rfl (by simp) (by kernel_rfl) ?_
  by_cases hl : nth x.labels done.length = nth y.labels f
  · simp [hl, hlt, hdx]
    repeat (rw [exE_eq]; simp [hl, hlt, hdx])
    refine ⟨_, l01Has_spec _ _ (by unfold Fits; omega) _, ?_⟩
    by_cases hc : (f : Int) ∈ done
    · simp [hc, fitV]
    · simp [hc]
      refine awp_loop2 [2, 3, 4, 5, 9] [] (fun d : Nat => [(10, iv d)]) (fun _ => []) (fun d => d ≤ done.length ∧ ∀ e, e < d → relOf x e done.length = relOf y (nth done e).toNat f) (fun d => done.length - d) 0 (weak_mk some (by simp) (by simp) rfl) ⟨by simp, by simp⟩ ?_
      rintro d ⟨hd, hp⟩
      by_cases hdl : d < done.length
      · obtain ⟨g, hg', hgn⟩ := hok d hdl
        simp [hdl]
        repeat (rw [exE_eq]; simp [hdl])
        refine ⟨_, l16Relation_spec _ _ _ x hx d done.length (by omega) hdx, ?_⟩
        simp [hdl, hg']
        repeat (rw [exE_eq]; simp [hdl, hg'])
        refine ⟨_, l16Relation_spec _ _ _ y hy g f hgn hlt, ?_⟩
        by_cases hr : relOf x d done.length = relOf y g f
        · simp [hr, wrap_id ((d : Int) + 1) (by omega) (by omega)]
          repeat (refine And.intro (by first | omega | exact ⟨by kernel_rfl, by kernel_rfl⟩) ?_)
          refine Round.mk (d + 1) (weak_mk some (by simp) (by simp) rfl) ⟨hdl, fun e he => ?_⟩ (by omega)
          by_cases e2 : e = d
          · subst e2; rw [hg', Int.toNat_natCast]; exact hr
          · exact hp e (by omega)
        · simp [hr]
          repeat (refine And.intro (by first | omega | exact ⟨by kernel_rfl, by kernel_rfl⟩) ?_)
          exact fitV_no hdl (by rw [hg', Int.toNat_natCast]; exact hr)
      · obtain rfl : d = done.length := by omega
        simp
        exact fitV_yes hl hc hp
  · have : fitV x y done f = false := by unfold fitV; simp [hl]
    simp [hl, hlt, hdx, this]
    repeat (rw [exE_eq]; simp [hl, hlt, hdx, this])
def resM : Option (List Int) → AV
  | some l => .tup [.own 1 false (ints l), bv true]
  | none => .tup [.val (.slice none 0 0), bv false]
theorem l16Match_spec (a0 a1 a2 b0 b1 b2 : Bool) (x y : StrucV) (hx : isStructureV x = true) (hy : isStructureV y = true) (hxy : x.labels.length = y.labels.length) : ∀ (k : Nat) (nn : Bool) (done : List Int), imOk y done → done.length + k = x.labels.length →
    ACalls2 Tryd.prog 18 [strucSl a0 a1 a2 x, strucSl b0 b1 b2 y, .own 1 nn (ints done)] [strucSl a0 a1 a2 x, strucSl b0 b1 b2 y, .junk] (resM (growV x y k done)) := by
  obtain ⟨x1, x2, x3⟩ := struc_len hx
  obtain ⟨y1, y2, y3⟩ := struc_len hy
  intro k
  induction k with
  | zero =>
    intro nn done hok hlen
    simp only [growV, resM]
    refine walkJ (fun t => t == 3 || t == 4) [false, false, true] mixed Go.Proofs.Tryd.func18 rfl rfl rfl (by kernel_rfl) (by simp) (by simp) (by simp) (by kernel_rfl) ?_
    simp
    refine ⟨_, l16Size_spec _ _ _ x, ?_⟩
    simp [show done.length = x.labels.length by omega]
  | succ k ih =>
    intro nn done hok hlen
    refine walkJ (fun t => t == 3 || t == 4 || t == 1030 || t == 2037) [false, false, true] mixed Go.Proofs.Tryd.func18 rfl rfl rfl (by kernel_rfl) (by simp) (by simp) (by simp) (by kernel_rfl) ?_
    simp
    refine ⟨_, l16Size_spec _ _ _ x, ?_⟩
    simp [show ¬ done.length = x.labels.length by omega]
    have hg : growV x y (k + 1) done = fsN (fun f => if fitV x y done f then growV x y k (done ++ [(f : Int)]) else none) y.labels.length := rfl
    generalize hG : (fun f => if fitV x y done f then growV x y k (done ++ [(f : Int)]) else none) = G at *
    refine awp_loop2 [2, 3, 4] [1000000002] (fun f : Nat => [(8, iv f)]) (fun _ => []) (fun f => f ≤ y.labels.length ∧ ∀ j, j < f → G j = none) (fun f => y.labels.length - f) 0 (weak_mk some (by simp) (by simp) rfl) ⟨by simp, fun j hj => by omega⟩ ?_
    rintro f ⟨hf, hp⟩
    simp
    refine ⟨_, l16Size_spec _ _ _ y, ?_⟩
    by_cases hlt : f < y.labels.length
    · have hdx : done.length < x.labels.length := by omega
      have go : G f = none → f + 1 ≤ y.labels.length ∧ ∀ j, j < f + 1 → G j = none := fun h => ⟨hlt, fun j hj => by
        by_cases e : j = f
        · subst e; exact h
        · exact hp j (by omega)⟩
      have hGf : G f = if fitV x y done f then growV x y k (done ++ [(f : Int)]) else none := by rw [← hG]
      simp [hlt]
      refine ⟨_, l16Fits_spec _ _ _ _ _ _ _ x y hx hy hxy done hok hdx f hlt, ?_⟩
      cases hfit : fitV x y done f
      · simp [wrap_id ((f : Int) + 1) (by omega) (by omega)]
        exact Round.mk (f + 1) (weak_mk some (by simp) (by simp) rfl) (go (by rw [hGf, hfit]; rfl)) (by omega)
      · rw [hfit, if_pos rfl] at hGf
        have hcall := ih true (done ++ [(f : Int)]) (imOk_snoc hok hlt) (by simp; omega)
        rw [← hGf] at hcall
        simp
        repeat (rw [exE_eq]; simp)
        refine ⟨_, l01Own_spec _ _ (by unfold Fits; omega), ?_⟩
        simp
        refine ⟨by omega, by omega, ?_⟩
        cases hR : G f with
        | none =>
          rw [hR] at hcall
          refine ⟨_, _, hcall, ?_⟩
          simp [resM, wrap_id ((f : Int) + 1) (by omega) (by omega)]
          repeat (refine And.intro (by first | omega | exact ⟨by kernel_rfl, by kernel_rfl⟩) ?_)
          exact Round.mk (f + 1) (weak_mk some (by simp) (by simp) rfl) (go hR) (by omega)
        | some l =>
          rw [hR] at hcall
          rw [hg, fsN_some hlt hp hR]
          refine ⟨_, _, hcall, ?_⟩
          simp [resM]
          first | refine ⟨⟨by kernel_rfl, by kernel_rfl⟩, ?_⟩ | exact ⟨by kernel_rfl, by kernel_rfl⟩
    · obtain rfl : f = y.labels.length := by omega
      rw [hg, fsN_none hp]
      simp [resM]
/-- A nil slice handed over. -/
theorem ACalls2.nil3 {P : Program} {f : FuncId} {a b a' b' : AV} {r : AV} (h : ACalls2 P f [a, b, .own 1 false []] [a', b', .junk] r) : ACalls2 P f [a, b, .val (.slice none 0 0)] [a', b', .junk] r := by
  obtain ⟨h1, h2⟩ := h
  refine ⟨h1, fun w I B vs hI hG hr hn hB => h2 w I B vs hI hG ?_ hn hB⟩
  simp only [RepL] at hr ⊢
  obtain ⟨B₁, B₂, v, vs', e1, e2, h1, B₃, B₄, v2, vs2, e3, e4, h3, B₅, B₆, v3, vs3, e5, e6, h5, h6⟩ := hr
  refine ⟨B₁, B₂, v, vs', e1, e2, h1, B₃, B₄, v2, vs2, e3, e4, h3, B₅, B₆, v3, vs3, e5, e6, ?_, h6⟩
  simp only [Rep] at h5 ⊢
  exact .inl ⟨h5.2, trivial, trivial, h5.1⟩
theorem IsomorphismOf_spec (a0 a1 a2 : Bool) (x : StrucV) (hx : StructureOk x) (b0 b1 b2 : Bool) (y : StrucV) (hy : StructureOk y) : ACalls1 Tryd.prog 6 [strucSl a0 a1 a2 x, strucSl b0 b1 b2 y] (.tup [.own 1 false (ints (isomorphismOfV x y).1), iv (isomorphismOfV x y).2]) := by
  refine walk (fun t => t == 2 || t == 3 || t == 2025) mixed Go.Proofs.Tryd.func6 rfl rfl rfl (by kernel_rfl) rfl (by simp) (by kernel_rfl) ?_
  simp
  refine ⟨_, IsStructure_spec _ _ _ x hx, ?_⟩
  unfold isomorphismOfV
  cases hsx : isStructureV x
  · simp
  · simp
    refine ⟨_, IsStructure_spec _ _ _ y hy, ?_⟩
    cases hsy : isStructureV y
    · simp
    · obtain ⟨x1, x2, x3⟩ := struc_len hsx
      obtain ⟨y1, y2, y3⟩ := struc_len hsy
      by_cases hl : x.labels.length = y.labels.length
      · have hcall := growIso_spec a0 a1 a2 b0 b1 b2 x y hsx hsy hl x.labels.length true [] (imOk_nil y) (by simp)
        simp only [ints_nil] at hcall
        simp [hl, x2, y2]
        rw [hl] at hcall
        cases hR : growV x y y.labels.length [] with
        | none =>
          rw [hR] at hcall
          refine ⟨_, _, hcall, ?_⟩
          simp [resG]
        | some l =>
          rw [hR] at hcall
          obtain ⟨l1, l2⟩ := growV_ok _ _ l (imOk_nil y) hR
          refine ⟨_, _, hcall, ?_⟩
          cases l with
          | nil =>
            have : y.labels.length = 0 := by simpa using l2.symm
            simp [resG, this]
          | cons z l' => simp [resG, ints_cons]
      · simp [hl, x2, y2]
theorem specIsomorphismOf_spec (a0 a1 a2 : Bool) (x : StrucV) (hx : StructureOk x) (b0 b1 b2 : Bool) (y : StrucV) (hy : StructureOk y) : ACalls1 Tryd.prog 7 [strucSl a0 a1 a2 x, strucSl b0 b1 b2 y] (.tup [.own 1 false (ints (isomorphismOfV x y).1), iv (isomorphismOfV x y).2]) := by
  refine walk (fun t => t == 2 || t == 3 || t == 2024) mixed Go.Proofs.Tryd.func7 rfl rfl rfl (by kernel_rfl) rfl (by simp) (by kernel_rfl) ?_
  simp
  refine ⟨_, l16Is_spec _ _ _ x, ?_⟩
  unfold isomorphismOfV
  cases hsx : isStructureV x
  · simp
  · simp
    refine ⟨_, l16Is_spec _ _ _ y, ?_⟩
    cases hsy : isStructureV y
    · simp
    · simp
      refine ⟨_, l16Size_spec _ _ _ x, ?_⟩
      simp
      refine ⟨_, l16Size_spec _ _ _ y, ?_⟩
      by_cases hl : x.labels.length = y.labels.length
      · have hcall := l16Match_spec a0 a1 a2 b0 b1 b2 x y hsx hsy hl x.labels.length false [] (imOk_nil y) (by simp)
        simp only [ints_nil] at hcall
        have hcall := hcall.nil3
        rw [hl] at hcall
        simp [hl]
        repeat (refine And.intro (by first | omega | exact ⟨by kernel_rfl, by kernel_rfl⟩) ?_)
        cases hR : growV x y y.labels.length [] with
        | none =>
          rw [hR] at hcall
          refine ⟨_, _, hcall, ?_⟩
          simp [resM]
        | some l =>
          rw [hR] at hcall
          refine ⟨_, _, hcall, ?_⟩
          simp [resM]
      · simp [hl]
theorem IsomorphismOf_fits (x : StrucV) (hx : StructureOk x) (y : StrucV) (hy : StructureOk y) : ListOk (isomorphismOfV x y).1 := by
  unfold isomorphismOfV
  split
  · rename_i h
    simp only [Bool.and_eq_true] at h
    obtain ⟨y1, y2, y3⟩ := struc_len h.2
    split
    · rename_i hl
      cases hR : growV x y x.labels.length [] with
      | none => simp [ListOk, Fits]
      | some l =>
        obtain ⟨l1, l2⟩ := growV_ok _ _ l (imOk_nil y) hR
        refine ⟨by simp only [Fits]; simp at l2; omega, fun z hz => ?_⟩
        have := imOk_list y1 l1 z hz
        unfold I64; omega
    · simp [ListOk, Fits]
  · simp [ListOk, Fits]
theorem fsN_inv {α : Type} {g : Nat → Option α} {r : α} : ∀ {n : Nat}, fsN g n = some r → ∃ f, f < n ∧ g f = some r
  | 0, h => by simp [fsN] at h
  | n + 1, h => by
    rw [fsN] at h
    cases hq : fsN g n with
    | some s =>
      rw [hq] at h
      obtain ⟨f, hf, e⟩ := fsN_inv hq
      exact ⟨f, by omega, by rw [e]; exact h⟩
    | none => rw [hq] at h; exact ⟨n, by omega, h⟩
theorem fsN_ne {α : Type} {g : Nat → Option α} {f : Nat} (h : g f ≠ none) : ∀ {n : Nat}, f < n → fsN g n ≠ none
  | 0, hf => by omega
  | n + 1, hf => by
    rw [fsN]
    cases hq : fsN g n with
    | some s => simp
    | none =>
      by_cases e : f = n
      · subst e; simpa using h
      · exact absurd hq (fsN_ne h (by omega))
theorem nthS_l {a : List Int} {x : Int} {i : Nat} (h : i < a.length) : nth (a ++ [x]) i = nth a i := by
  rw [nth_at (by simp; omega), nth_at h, List.getElem_append_left h]
theorem nthS_e {a : List Int} {x : Int} : nth (a ++ [x]) a.length = x := by
  rw [nth_at (by simp)]; simp
/-- Images that keep what they should. -/
structure PartOk (x y : StrucV) (L : List Int) : Prop where
  im : imOk y L
  lab : ∀ e, e < L.length → nth x.labels e = nth y.labels (nth L e).toNat
  nd : ∀ d e, d < e → e < L.length → nth L d ≠ nth L e
  rel : ∀ d e, d < e → e < L.length → relOf x d e = relOf y (nth L d).toNat (nth L e).toNat
theorem fit_part {x y : StrucV} {L : List Int} (h : PartOk x y L) {f : Nat} (hf : f < y.labels.length) (hfit : fitV x y L f = true) : PartOk x y (L ++ [(f : Int)]) := by
  unfold fitV at hfit
  simp only [Bool.and_eq_true, List.all_eq_true, List.mem_range, beq_iff_eq, Bool.not_eq_true', decide_eq_false_iff_not] at hfit
  obtain ⟨⟨f1, f2⟩, f3⟩ := hfit
  refine ⟨imOk_snoc h.im hf, fun e he => ?_, fun d e hde he => ?_, fun d e hde he => ?_⟩
  · by_cases hl : e < L.length
    · rw [nthS_l hl]; exact h.lab e hl
    · obtain rfl : e = L.length := by simp at he; omega
      rw [nthS_e]; simpa using f1
  · by_cases hl : e < L.length
    · rw [nthS_l hl, nthS_l (by omega)]; exact h.nd d e hde hl
    · obtain rfl : e = L.length := by simp at he; omega
      rw [nthS_e, nthS_l hde]
      intro e2
      exact f2 (e2 ▸ nth_mem hde)
  · by_cases hl : e < L.length
    · rw [nthS_l hl, nthS_l (by omega)]; exact h.rel d e hde hl
    · obtain rfl : e = L.length := by simp at he; omega
      rw [nthS_e, nthS_l hde]; simpa using f3 d hde
theorem grow_part {x y : StrucV} : ∀ (k : Nat) {L l : List Int}, PartOk x y L → growV x y k L = some l → PartOk x y l ∧ l.length = L.length + k
  | 0, L, l, h, hl => by
    simp only [growV, Option.some.injEq] at hl
    subst hl; exact ⟨h, rfl⟩
  | k + 1, L, l, h, hl => by
    rw [growV] at hl
    obtain ⟨f, hf, hg⟩ := fsN_inv hl
    by_cases hfit : fitV x y L f = true
    · rw [if_pos hfit] at hg
      obtain ⟨a1, a2⟩ := grow_part k (fit_part h hf hfit) hg
      exact ⟨a1, by rw [a2]; simp; omega⟩
    · rw [if_neg hfit] at hg; cases hg
/-- Where there is a whole list, one is found. -/
theorem grow_some {x y : StrucV} {F : List Int} (hF : PartOk x y F) : ∀ (k : Nat) {L : List Int}, L = F.take L.length → L.length + k = F.length → growV x y k L ≠ none
  | 0, L, _, _ => by simp [growV]
  | k + 1, L, hL, hk => by
    obtain ⟨f, hf1, hf2⟩ := hF.im L.length (by omega)
    have hsn : L ++ [(f : Int)] = F.take (L.length + 1) := by
      rw [take_succ F L.length (by omega), ← hL]
      congr 2
      rw [← hf1]; rfl
    rw [growV]
    refine fsN_ne (f := f) ?_ hf2
    have hfit : fitV x y L f = true := by
      have hnl : ∀ d, d < L.length → nth L d = nth F d := fun d hd => by
        rw [hL, nth_at (by simp; omega), nth_at (by omega)]; simp
      refine fitV_yes ?_ ?_ ?_
      · have := hF.lab L.length (by omega)
        rw [hf1] at this; simpa using this
      · intro hm
        obtain ⟨d, hd, e⟩ := List.mem_iff_getElem.1 hm
        rw [← nth_at hd, hnl d hd] at e
        exact hF.nd d L.length hd (by omega) (by rw [e, hf1])
      · intro d hd
        have := hF.rel d L.length hd (by omega)
        rw [hf1] at this
        rw [hnl d hd]; simpa using this
    rw [if_pos hfit]
    exact grow_some hF k (by rw [hsn]; simp) (by simp; omega)
def idL (n : Nat) : List Int := (List.range n).map fun (e : Nat) => (e : Int)
@[simp] theorem idL_length (n : Nat) : (idL n).length = n := by simp [idL]
theorem idL_nth {n e : Nat} (h : e < n) : nth (idL n) e = (e : Int) := by rw [nth_at (by simpa using h)]; simp [idL]
theorem idL_succ (n : Nat) : idL (n + 1) = idL n ++ [(n : Int)] := by simp [idL, List.range_succ]
theorem idL_mem {n f : Nat} : (f : Int) ∈ idL n ↔ f < n := by
  unfold idL
  rw [List.mem_map]
  constructor
  · rintro ⟨e, he, h⟩
    have := List.mem_range.1 he
    omega
  · intro h; exact ⟨f, List.mem_range.2 h, rfl⟩
theorem id_fit (x : StrucV) (e : Nat) : fitV x x (idL e) e = true := by
  refine fitV_yes (by simp) (by rw [idL_mem]; omega) fun d hd => ?_
  rw [idL_length] at hd ⊢
  rw [idL_nth hd]; simp
theorem id_grow (x : StrucV) : ∀ (k : Nat) {e : Nat}, e + k = x.labels.length → growV x x k (idL e) = some (idL x.labels.length)
  | 0, e, h => by simp only [growV]; rw [show e = x.labels.length by omega]
  | k + 1, e, h => by
    rw [growV]
    refine fsN_some (f := e) (by omega) (fun f hf => ?_) ?_
    · rw [if_neg]
      unfold fitV
      simp only [Bool.and_eq_true, Bool.not_eq_true', decide_eq_false_iff_not, idL_mem]
      rintro ⟨⟨_, h2⟩, _⟩
      exact h2 hf
    · rw [if_pos (id_fit x e), ← idL_succ]
      exact id_grow x k (by omega)
theorem iso_self {x : StrucV} (h : isStructureV x = true) : isomorphismOfV x x = (idL x.labels.length, 0) := by
  unfold isomorphismOfV
  rw [h]
  simp only [Bool.and_self, if_true]
  have := id_grow x x.labels.length (e := 0) (by omega)
  rw [show idL 0 = [] from rfl] at this
  rw [this]
theorem below_anti {x : StrucV} (h : isStructureV x = true) {e f : Nat} (he : e < x.labels.length) (hf : f < x.labels.length) (h1 : tb (nth x.below e) f = true) : tb (nth x.below f) e = false := by
  obtain ⟨k1, _, _, k4, k5⟩ := isStruc_iff.1 h
  have hp := k5 e he f hf
  have hv := k4 e he
  obtain ⟨m1, _⟩ := struc_M h he
  obtain ⟨m2, _⟩ := struc_M h hf
  unfold pairOk sub2 at hp
  rw [h1] at hp
  simp only [Bool.and_eq_true, Bool.not_true, Bool.false_or, beq_iff_eq] at hp
  have hz := hp.1.1
  rw [eq_zero_iff (M_andNot m2 m1)] at hz
  have := hz e
  rw [tb_andNot m2 m1] at this
  unfold evOk at hv
  simp only [Bool.and_eq_true, Bool.not_eq_true'] at hv
  rw [hv.1.2] at this
  simpa using this
theorem clash_sym {x : StrucV} (h : isStructureV x = true) {e f : Nat} (he : e < x.labels.length) (hf : f < x.labels.length) : tb (nth x.clash e) f = tb (nth x.clash f) e := by
  obtain ⟨_, _, _, _, k5⟩ := isStruc_iff.1 h
  have hp := k5 e he f hf
  unfold pairOk at hp
  simp only [Bool.and_eq_true, beq_iff_eq] at hp
  exact hp.2
def flipR (v : Int) : Int := if v = 1 then 2 else if v = 2 then 1 else v
theorem relOf_flip {x : StrucV} (h : isStructureV x = true) {e f : Nat} (he : e < x.labels.length) (hf : f < x.labels.length) : relOf x f e = flipR (relOf x e f) := by
  unfold relOf
  by_cases e1 : e = f
  · subst e1; simp [flipR]
  · rw [if_neg e1, if_neg (fun h => e1 h.symm), clash_sym h hf he]
    cases h1 : tb (nth x.below f) e
    · cases h2 : tb (nth x.below e) f
      · cases h3 : tb (nth x.clash e) f <;> simp [flipR]
      · simp [flipR]
    · have := below_anti h hf he h1
      rw [this]; simp [flipR]
/-- Images keep all relations. -/
theorem part_rel {x y : StrucV} (hx : isStructureV x = true) (hy : isStructureV y = true) {L : List Int} (h : PartOk x y L) (hl : L.length = x.labels.length) {d e : Nat} (hd : d < L.length) (he : e < L.length) : relOf x d e = relOf y (nth L d).toNat (nth L e).toNat := by
  obtain ⟨p, p1, p2⟩ := h.im d hd
  obtain ⟨q, q1, q2⟩ := h.im e he
  rcases Nat.lt_trichotomy d e with h1 | h1 | h1
  · exact h.rel d e h1 he
  · subst h1; simp [relOf]
  · have := h.rel e d h1 hd
    rw [p1, q1] at this ⊢
    simp only [Int.toNat_natCast] at this ⊢
    rw [relOf_flip hx (by omega) (by omega), this, ← relOf_flip hy q2 p2]
theorem part_onto {x y : StrucV} {L : List Int} (h : PartOk x y L) (hl : L.length = y.labels.length) {f : Nat} (hf : f < y.labels.length) : ∃ e, e < L.length ∧ nth L e = (f : Int) := by
  refine Classical.byContradiction fun hn => ?_
  have hall : ∀ c ∈ (f :: L.map Int.toNat), c < y.labels.length := fun c hc => by
    rcases List.mem_cons.1 hc with rfl | hc
    · exact hf
    · obtain ⟨v, hv, rfl⟩ := List.mem_map.1 hc
      obtain ⟨e, he, rfl⟩ := List.mem_iff_getElem.1 hv
      obtain ⟨k, k1, k2⟩ := h.im e he
      rw [← nth_at he, k1]; simpa using k2
  have hnd : (f :: L.map Int.toNat).Nodup := by
    rw [List.nodup_cons]
    constructor
    · intro hm
      obtain ⟨v, hv, e2⟩ := List.mem_map.1 hm
      obtain ⟨e, he, rfl⟩ := List.mem_iff_getElem.1 hv
      obtain ⟨k, k1, k2⟩ := h.im e he
      rw [← nth_at he, k1] at e2
      exact hn ⟨e, he, by rw [k1]; simp at e2; rw [e2]⟩
    · rw [List.nodup_iff_pairwise_ne, List.pairwise_iff_getElem]
      intro i j hi hj hij
      have hi' : i < L.length := by simpa using hi
      have hj' : j < L.length := by simpa using hj
      obtain ⟨p, p1, _⟩ := h.im i hi'
      obtain ⟨q, q1, _⟩ := h.im j hj'
      have := h.nd i j hij hj'
      rw [nth_at hi'] at p1 this
      rw [nth_at hj'] at q1 this
      simp only [List.getElem_map]
      rw [p1, q1] at this ⊢
      simp at this ⊢
      exact this
  have := nodup_bound y.labels.length _ hnd hall
  simp at this
  omega
/-- The numbers of the images. -/
def backN (L : List Int) (f : Nat) : Nat := L.idxOf (f : Int)
def backR (L : List Int) (n : Nat) : List Int := (List.range n).map fun f => (backN L f : Int)
theorem backN_spec {x y : StrucV} {L : List Int} (h : PartOk x y L) (hl : L.length = y.labels.length) {f : Nat} (hf : f < y.labels.length) : backN L f < L.length ∧ nth L (backN L f) = (f : Int) := by
  obtain ⟨e, he, e2⟩ := part_onto h hl hf
  have hm : (f : Int) ∈ L := by rw [← e2]; exact nth_mem he
  have h1 := List.idxOf_lt_length_iff.2 hm
  refine ⟨h1, ?_⟩
  unfold backN
  rw [nth_at h1]
  exact List.getElem_idxOf h1
theorem part_back {x y : StrucV} (hx : isStructureV x = true) (hy : isStructureV y = true) {L : List Int} (h : PartOk x y L) (hl : L.length = y.labels.length) (hxy : x.labels.length = y.labels.length) : PartOk y x (backR L y.labels.length) := by
  have hn : ∀ f, f < y.labels.length → nth (backR L y.labels.length) f = (backN L f : Int) := fun f hf => by
    rw [nth_at (by simpa [backR] using hf)]; simp [backR]
  have hlen : (backR L y.labels.length).length = y.labels.length := by simp [backR]
  refine ⟨fun d hd => ?_, fun e he => ?_, fun d e hde he => ?_, fun d e hde he => ?_⟩
  · rw [hlen] at hd
    have := backN_spec h hl hd
    exact ⟨backN L d, hn d hd, by omega⟩
  · rw [hlen] at he
    obtain ⟨b1, b2⟩ := backN_spec h hl he
    have := h.lab _ b1
    rw [b2] at this
    rw [hn e he]
    simp only [Int.toNat_natCast] at this ⊢
    exact this.symm
  · rw [hlen] at he
    obtain ⟨b1, b2⟩ := backN_spec h hl he
    obtain ⟨c1, c2⟩ := backN_spec h hl (show d < y.labels.length by omega)
    rw [hn e he, hn d (by omega)]
    intro e3
    have : backN L d = backN L e := by omega
    rw [this, b2] at c2
    omega
  · rw [hlen] at he
    obtain ⟨b1, b2⟩ := backN_spec h hl he
    obtain ⟨c1, c2⟩ := backN_spec h hl (show d < y.labels.length by omega)
    rw [hn e he, hn d (by omega)]
    have := part_rel hx hy h (by omega) c1 b1
    rw [b2, c2] at this
    simp only [Int.toNat_natCast] at this ⊢
    exact this.symm
theorem part_nil (x y : StrucV) : PartOk x y [] := ⟨imOk_nil y, fun e he => by simp at he, fun d e _ he => by simp at he, fun d e _ he => by simp at he⟩
theorem iso_found {x y : StrucV} (h : (isomorphismOfV x y).2 = 0) : isStructureV x = true ∧ isStructureV y = true ∧ x.labels.length = y.labels.length ∧ PartOk x y (isomorphismOfV x y).1 ∧ (isomorphismOfV x y).1.length = y.labels.length := by
  unfold isomorphismOfV at h ⊢
  by_cases hs : (isStructureV x && isStructureV y) = true
  · rw [if_pos hs] at h ⊢
    rw [Bool.and_eq_true] at hs
    by_cases hl : x.labels.length = y.labels.length
    · rw [if_pos hl] at h ⊢
      cases hg : growV x y x.labels.length [] with
      | none => rw [hg] at h; simp at h
      | some L =>
        obtain ⟨a1, a2⟩ := grow_part _ (part_nil x y) hg
        exact ⟨hs.1, hs.2, hl, a1, by simp at a2; simp only; omega⟩
    · rw [if_neg hl] at h; simp at h
  · rw [if_neg hs] at h; simp at h
theorem iso_back {x y : StrucV} (h : (isomorphismOfV x y).2 = 0) : (isomorphismOfV y x).2 = 0 ∧ (isomorphismOfV y x).1.length = y.labels.length := by
  obtain ⟨h1, h2, h3, h4, h5⟩ := iso_found h
  have hb := part_back h1 h2 h4 h5 h3
  have hne := grow_some hb y.labels.length (L := []) (by simp) (by simp [backR])
  have : (isomorphismOfV y x).2 = 0 := by
    unfold isomorphismOfV
    rw [h1, h2]
    simp only [Bool.and_self, if_true]
    rw [if_pos h3.symm]
    cases hg : growV y x y.labels.length [] with
    | none => exact absurd hg hne
    | some L => rfl
  exact ⟨this, by have := (iso_found this).2.2.2.2; omega⟩
theorem iso_bad {x y : StrucV} (h : (isomorphismOfV x y).2 ≠ 0) : (isomorphismOfV x y).1 = [] := by
  unfold isomorphismOfV at h ⊢
  split
  · rename_i hs
    rw [if_pos hs] at h
    split
    · rename_i hl
      rw [if_pos hl] at h
      cases hg : growV x y x.labels.length [] with
      | none => rfl
      | some L => rw [hg] at h; simp at h
    · rfl
  · rfl
end Go.AM
