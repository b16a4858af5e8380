/-
  LocalPath: both sides.
-/
import Derived.Test.YtokkjmgfjmapfaaDoorFnBd
set_option linter.unusedVariables false
set_option linter.unusedSimpArgs false
set_option maxRecDepth 100000
set_option maxHeartbeats 1600000
namespace Go.AM
open Go.Proofs
/-- The local states of a process after the first letters. -/
def lpU (z : AsyV) (w : List Int) (p : Nat) : Nat → List Int
  | 0 => [nth z.start p]
  | k + 1 => if tb (nth z.places (nth w k).toNat) p then lpU z w p k ++ [nth ((runV z z.start (w.take (k + 1))).getD []) p] else lpU z w p k
theorem lpU_len (z : AsyV) (w : List Int) (p k : Nat) : (lpU z w p k).length ≤ k + 1 := by
  induction k with
  | zero => simp [lpU]
  | succ k ih =>
    unfold lpU
    split
    · simp; omega
    · omega
def localPathV (z : AsyV) (w : List Int) (p : Int) : List Int × Int :=
  if isAsy z then (if overW z.places.length w && (decide (0 ≤ p) && decide (p ≤ (z.sizes.length : Int) - 1)) then (if (runV z z.start w).isSome then (lpU z w p.toNat w.length, 0) else ([], 4)) else ([], 2)) else ([], 1)
theorem lp0 {z : AsyV} {w : List Int} {p : Int} (hz : isAsy z = false) : localPathV z w p = ([], 1) := by simp [localPathV, hz]
theorem lp1 {z : AsyV} {w : List Int} {p : Int} (hz : isAsy z = true) (hb : (overW z.places.length w && (decide (0 ≤ p) && decide (p ≤ (z.sizes.length : Int) - 1))) = false) : localPathV z w p = ([], 2) := by simp only [localPathV, hz, hb]; rfl
theorem lp2 {z : AsyV} {w : List Int} {p : Int} (hz : isAsy z = true) (hb : (overW z.places.length w && (decide (0 ≤ p) && decide (p ≤ (z.sizes.length : Int) - 1))) = true) (hr : runV z z.start w = none) : localPathV z w p = ([], 4) := by simp only [localPathV, hz, hb, hr]; rfl
theorem lp3 {z : AsyV} {w : List Int} {p : Int} {g : List Int} (hz : isAsy z = true) (hb : (overW z.places.length w && (decide (0 ≤ p) && decide (p ≤ (z.sizes.length : Int) - 1))) = true) (hr : runV z z.start w = some g) : localPathV z w p = (lpU z w p.toNat w.length, 0) := by simp only [localPathV, hz, hb, hr]; rfl
theorem specLocalPath_spec (z : AsyV) (ho : AsyOk z) (c : Bool) (w : List Int) (hw : ListOk w) (p : Int) (hp : I64 p) : ACalls1 Tryd.prog 18 [asySl z, .sl 1 c (ints w), iv p] (.tup [.own 1 false (ints (localPathV z w p).1), iv (localPathV z w p).2]) := by
  have hpl := ho.1.1
  unfold Fits at hpl
  refine walk (fun t => t == 3 || t == 1048) mixed Go.Proofs.Tryd.func18 rfl rfl rfl (by kernel_rfl) rfl (by simp) (by kernel_rfl) ?_
  simp
  refine ⟨_, specIsAsynchronous_spec z ho, ?_⟩
  cases hz : isAsy z
  · simp [lp0 hz]
  · have hf := isAsy_facts hz
    have h4 := hf.1.1
    have hM := hf.2.1
    have hsl := isGlob_len hf.2.2.1
    have hws : IntKind.i64.wrap ((z.sizes.length : Int) - 1) = (z.sizes.length : Int) - 1 := wrap_id _ (by omega) (by omega)
    simp
    refine ⟨_, l11Word_spec z.places.length hpl _ w hw.1, ?_⟩
    cases hv : overW z.places.length w
    · simp [lp1 hz (by rw [hv]; rfl)]
    · simp [hws]
      repeat (refine And.intro (by omega) ?_)
      refine ⟨_, l01In_spec _ _ _, ?_⟩
      cases hpp : (decide (0 ≤ p) && decide (p ≤ (z.sizes.length : Int) - 1))
      · simp [lp1 hz (by rw [hv, hpp]; rfl)]
      · have hpp' : 0 ≤ p ∧ p ≤ (z.sizes.length : Int) - 1 := by simpa using hpp
        obtain ⟨q, rfl⟩ := Int.eq_ofNat_of_zero_le hpp'.1
        have hq : q < z.start.length := by omega
        obtain ⟨w1, w2⟩ := overW_facts hv
        simp
        refine ⟨_, l01Own_spec _ z.start (by unfold Fits; omega), ?_⟩
        simp [hq]
        repeat (refine And.intro (by omega) ?_)
        refine awp_loop2 [1, 2, 3] [] (fun s : Nat × List Int => [(10, iv s.1), (8, .ref 200), (9, .ref 201)]) (fun s => [(200, .own 1 false (ints s.2)), (201, .own 1 true (ints (lpU z w q s.1)))]) (fun s => s.1 ≤ w.length ∧ runV z z.start (w.take s.1) = some s.2) (fun s => w.length - s.1) (0, z.start) (weak_mk (fun t => if t = 200 then some 35 else if t = 201 then some 40 else some t) (by simp) (by simp [lpU]; rfl) rfl) (by simp [runV]) ?_
        rintro ⟨k, cur⟩ ⟨hk, hr⟩
        simp only at hk hr
        have hcl := runV_len hr
        by_cases hlt : k < w.length
        · obtain ⟨a, ha1, ha2⟩ := w2 k hlt
          simp [hlt, ha1]
          refine ⟨_, l14Step_spec z hz ho _ cur (by omega) a ha2, ?_⟩
          have hn := runV_succ z z.start w hlt
          rw [hr, ha1] at hn
          simp only [Option.bind_some, Int.toNat_natCast] at hn
          cases hs : stepV z cur a with
          | none =>
            rw [hs] at hn
            rw [lp2 hz (by rw [hv, hpp]; rfl) (runV_fail hn)]
            simp
            first | refine ⟨⟨by kernel_rfl, by kernel_rfl⟩, ?_⟩ | exact ⟨by kernel_rfl, by kernel_rfl⟩
          | some g' =>
            rw [hs] at hn
            have hgl := stepV_len hs
            have hll := lpU_len z w q k
            simp [ha1, ha2, hlt]
            first | refine ⟨⟨by kernel_rfl, by kernel_rfl⟩, ?_⟩ | exact ⟨by kernel_rfl, by kernel_rfl⟩
            refine ⟨_, l01Bit_spec _ (hM a ha2).1 q (by omega), ?_⟩
            cases ht : tb (nth z.places a) q
            · simp
              rw [wrap_id _ (by omega) (by omega)]
              exact Round.mk (k + 1, g') (weak_mk (fun t => if t = 200 then some 55000 else some t) (by simp) (by simp [lpU, ha1, ht]) rfl) ⟨hlt, hn⟩ (by simp only; omega)
            · simp [show q < g'.length by omega]
              refine ⟨by omega, by omega, by omega, ?_⟩
              rw [wrap_id _ (by omega) (by omega)]
              exact Round.mk (k + 1, g') (weak_mk (fun t => if t = 200 then some 55000 else if t = 201 then some 76 else some t) (by simp) (by simp [lpU, ha1, ht, hn]) rfl) ⟨hlt, hn⟩ (by simp only; omega)
        · obtain rfl : k = w.length := by omega
          rw [List.take_length] at hr
          rw [lp3 hz (by rw [hv, hpp]; rfl) hr]
          simp
theorem LocalPath_spec (z : AsyV) (ho : AsyOk z) (c : Bool) (w : List Int) (hw : ListOk w) (p : Int) (hp : I64 p) : ACalls1 Tryd.prog 19 [asySl z, .sl 1 c (ints w), iv p] (.tup [.own 1 false (ints (localPathV z w p).1), iv (localPathV z w p).2]) := by
  have hpl := ho.1.1
  have hpl' := hpl
  have hsf := ho.2.1.1
  unfold Fits at hpl'
  refine walk (fun t => t == 3 || t == 3038) mixed Go.Proofs.Tryd.func19 rfl rfl rfl (by kernel_rfl) rfl (by simp) (by kernel_rfl) ?_
  simp
  refine ⟨_, IsAsynchronous_spec z ho, ?_⟩
  cases hz : isAsy z
  · simp [lp0 hz]
  · have hf := isAsy_facts hz
    have h4 := hf.1.1
    have hM := hf.2.1
    have hsl := isGlob_len hf.2.2.1
    have hws : IntKind.i64.wrap ((z.sizes.length : Int) - 1) = (z.sizes.length : Int) - 1 := wrap_id _ (by omega) (by omega)
    simp
    refine ⟨_, length_spec _ _ hpl, ?_⟩
    simp
    refine ⟨_, isOver_spec z.places.length hpl' _ w hw.1, ?_⟩
    cases hv : overW z.places.length w
    · simp [lp1 hz (by rw [hv]; rfl)]
    · simp
      refine ⟨_, length_spec _ _ hsf, ?_⟩
      simp [hws]
      repeat (refine And.intro (by omega) ?_)
      refine ⟨_, inRange_spec _ _ _, ?_⟩
      cases hpp : (decide (0 ≤ p) && decide (p ≤ (z.sizes.length : Int) - 1))
      · simp [lp1 hz (by rw [hv, hpp]; rfl)]
      · have hpp' : 0 ≤ p ∧ p ≤ (z.sizes.length : Int) - 1 := by simpa using hpp
        obtain ⟨q, rfl⟩ := Int.eq_ofNat_of_zero_le hpp'.1
        have hq : q < z.start.length := by omega
        obtain ⟨w1, w2⟩ := overW_facts hv
        simp
        refine ⟨_, run_spec z hz ho _ _ z.start hsl w hv, ?_⟩
        cases hr : runV z z.start w with
        | none =>
          rw [lp2 hz (by rw [hv, hpp]; rfl) hr]
          simp
        | some g =>
          rw [lp3 hz (by rw [hv, hpp]; rfl) hr]
          simp [hq]
          refine awp_loop2 [2, 3, 8, 49, 50] [] (fun k : Nat => [(51, iv k), (10, .ref 201)]) (fun k => [(201, .own 1 true (ints (lpU z w q k)))]) (fun k => k ≤ w.length) (fun k => w.length - k) 0 (weak_mk (fun t => if t = 201 then some 48 else some t) (by simp) (by simp [lpU]; rfl) rfl) (by simp) ?_
          intro k hk
          by_cases hlt : k < w.length
          · obtain ⟨a, ha1, ha2⟩ := w2 k hlt
            have hll := lpU_len z w q k
            simp [hlt, ha1, ha2]
            refine ⟨_, has_spec _ (hM a ha2).1 q (by omega), ?_⟩
            cases ht : tb (nth z.places a) q
            · simp
              rw [wrap_id _ (by omega) (by omega)]
              exact Round.mk (k + 1) (weak_mk (fun t => if t = 201 then some 201 else some t) (by simp) (by simp [lpU, ha1, ht]) rfl) hlt (by omega)
            · have hat := sts_at z z.start w w.length (k + 1) hlt
              have hge : ∃ g', runV z z.start (w.take (k + 1)) = some g' := by
                cases hg : runV z z.start (w.take (k + 1)) with
                | none => rw [runV_fail hg] at hr; cases hr
                | some g' => exact ⟨g', rfl⟩
              obtain ⟨g', hg'⟩ := hge
              have hgl := runV_len hg'
              rw [hg'] at hat
              simp only [Option.getD_some] at hat
              have hwk : IntKind.i64.wrap ((k : Int) + 1) = ((k + 1 : Nat) : Int) := by rw [wrap_id _ (by omega) (by omega)]; rfl
              simp [hwk, hat, show q < g'.length by omega]
              refine ⟨by omega, hlt, by omega, by omega, ?_⟩
              exact Round.mk (k + 1) (weak_mk (fun t => if t = 201 then some 73 else some t) (by simp) (by simp [lpU, ha1, ht, hg']) rfl) hlt (by omega)
          · obtain rfl : k = w.length := by omega
            simp
def AllI (l : List Int) : Prop := ∀ x ∈ l, I64 x
theorem AllI.nth {l : List Int} (h : AllI l) (i : Nat) : I64 (nth l i) := by
  by_cases hi : i < l.length
  · exact h _ (nth_mem hi)
  · unfold Go.AM.nth
    rw [List.getD_eq_getElem?_getD, List.getElem?_eq_none (by omega)]
    unfold I64
    simp
theorem putL_all {g bs to : List Int} (h1 : AllI g) (h2 : AllI to) : ∀ k, AllI (putL g bs to k)
  | 0 => h1
  | k + 1 => by
    intro x hx
    unfold putL at hx
    rcases List.mem_or_eq_of_mem_set hx with hx | rfl
    · exact putL_all h1 h2 k x hx
    · exact h2.nth k
theorem stepV_all {z : AsyV} (ho : AsyOk z) {g g' : List Int} {a : Nat} (h : AllI g) (hs : stepV z g a = some g') : AllI g' := by
  unfold stepV at hs
  cases hi : stepI z g a with
  | none => rw [hi] at hs; simp at hs
  | some i =>
    rw [hi] at hs
    simp only [Option.map_some, Option.some.injEq] at hs
    rw [← hs]
    unfold stepTo
    refine putL_all h ?_ _
    unfold stepI at hi
    have hm := List.mem_of_find?_eq_some hi
    rw [List.mem_range] at hm
    exact (ho.2.2.2.1.2 _ (nthJ_mem hm)).2.2.2
theorem runV_all {z : AsyV} (ho : AsyOk z) : ∀ {w g g' : List Int}, AllI g → runV z g w = some g' → AllI g'
  | [], g, g', h, hr => by simp [runV] at hr; rw [← hr]; exact h
  | a :: w, g, g', h, hr => by
    simp only [runV] at hr
    cases hs : stepV z g a.toNat with
    | none => rw [hs] at hr; simp at hr
    | some g1 => rw [hs] at hr; exact runV_all ho (stepV_all ho h hs) hr
theorem lpU_all {z : AsyV} (ho : AsyOk z) {w : List Int} {p : Nat} : ∀ k, AllI (lpU z w p k)
  | 0 => by
    intro x hx
    simp only [lpU, List.mem_singleton] at hx
    subst hx
    exact AllI.nth (l := z.start) ho.2.2.1.2 p
  | k + 1 => by
    unfold lpU
    split
    · intro x hx
      rcases List.mem_append.1 hx with hx | hx
      · exact lpU_all ho k x hx
      · simp only [List.mem_singleton] at hx
        subst hx
        cases hr : runV z z.start (w.take (k + 1)) with
        | none => simp only [Option.getD_none]; exact AllI.nth (l := []) (by intro x hx; cases hx) p
        | some g => exact AllI.nth (l := g) (runV_all ho ho.2.2.1.2 hr) p
    · exact lpU_all ho k
theorem LocalPath_fits (z : AsyV) (ho : AsyOk z) (w : List Int) (hw : ListOk w) (p : Int) (hp : I64 p) : ListOk (localPathV z w p).1 := by
  have hn : ListOk ([] : List Int) := ⟨by simp [Fits], by intro x hx; cases hx⟩
  unfold localPathV
  split
  · split
    · split
      · rename_i h1 h2 h3
        have h24 := (overW_facts (by rw [Bool.and_eq_true] at h2; exact h2.1)).1
        have := lpU_len z w p.toNat w.length
        exact ⟨by simp only [Fits]; omega, lpU_all ho _⟩
      · exact hn
    · exact hn
  · exact hn
end Go.AM
