/-
  Several texts in one: FnUa FnUb FnUc FnUd.
-/
import Derived.Test.YthabclhldlikfaaGreatDoorFnMgT
import Derived.Test.YthabclhldlikfaaGreatDoorFnN
import Derived.Test.YthabclhldlikfaaGreatDoorFnGe
import Derived.Test.YthabclhldlikfaaGreatDoorFnZ
set_option linter.unusedVariables false
set_option linter.unusedSimpArgs false
set_option linter.unusedSectionVars false
set_option maxRecDepth 100000
set_option maxHeartbeats 1600000
namespace Go.AM
open Go.Proofs
/-- The letters of a word taken away from the front of another one, one after the other. -/
def cutN (t : List Int) : List Nat → List Nat → Option (List Nat)
  | [], v => some v
  | a :: u, v => if isFree t v a then cutN t u (v.erase a) else none
def withinN (t : List Int) (u v : List Nat) : Bool := (cutN t u v).isSome
theorem l05Cut_spec (a b c : Bool) (x : AlphaV) (ht : TOk x.depends) (u v : List Nat) (hu : WOk x.depends.length u) (hv : WOk x.depends.length v) : ACalls1 Tryz.prog 143 [alphaSl a x, .sl 1 b (ints (nats u)), .sl 1 c (ints (nats v))]
    (.tup [.own 1 false (ints (nats ((cutN x.depends u v).getD []))), bv (cutN x.depends u v).isSome]) := by
  have hd := ht.1
  obtain ⟨hu1, hu2⟩ := hu
  obtain ⟨hv1, hv2⟩ := hv
  generalize hR : cutN x.depends u v = R
  refine walk (fun _ => false) mixed Go.Proofs.Tryz.func143 rfl rfl rfl (by kernel_rfl) rfl (by simp) (by kernel_rfl) ?_
  simp
  refine ⟨_, l01Own_spec c (nats v) (by unfold Fits; simp; omega), ?_⟩
  simp
  refine awp_loop2 [1, 3] [3] (fun q : Nat × List Nat => [(9, iv q.1), (8, .ref 200)]) (fun q => [(200, .own 1 false (ints (nats q.2)))])
    (fun q => q.1 ≤ u.length ∧ q.2.length ≤ v.length ∧ (∀ c ∈ q.2, c < x.depends.length) ∧ cutN x.depends (u.drop q.1) q.2 = R) (fun q => u.length - q.1) (0, v) (weak_mk (fun t => if t = 200 then some 12 else some t) (by simp) (by simp) rfl) (by simp; exact ⟨hv2, hR⟩) ?_
  rintro ⟨k, z⟩ ⟨hk, hz1, hz2, hz3⟩
  simp only at hk hz1 hz2 hz3
  by_cases hlt : k < u.length
  · have hc := hu2 _ (natAt_mem hlt)
    have hnn := nats_nth hlt
    have hdr : u.drop k = natAt u k :: u.drop (k + 1) := by rw [natAt_at hlt]; exact List.drop_eq_getElem_cons hlt
    rw [hdr, cutN] at hz3
    generalize natAt u k = e at *
    simp [hlt, hnn]
    refine ⟨_, l03First_spec _ _ x ht z ⟨by omega, hz2⟩ e (by omega), ?_⟩
    unfold fstI
    cases hf : isFree x.depends z e
    · rw [hf, if_neg (by simp)] at hz3
      subst hz3
      simp [nats]
    · rw [hf, if_pos rfl] at hz3
      have hm := isFree_mem hf
      have hel := List.length_erase_of_mem hm
      simp [show ¬ ((z.idxOf e : Nat) : Int) < 0 by omega]
      refine ⟨_, l03Without_spec _ z (by omega) e hm, ?_⟩
      simp
      rw [wrap_id ((k : Int) + 1) (by omega) (by omega)]
      exact Round.mk (k + 1, z.erase e) (weak_mk (fun t => if t = 200 then some 30 else some t) (by simp) (by simp) rfl) ⟨hlt, by simp only; omega, fun c hc => hz2 c (List.mem_of_mem_erase hc), hz3⟩ (by simp only; omega)
  · obtain rfl : k = u.length := by omega
    rw [List.drop_length, cutN] at hz3
    subst hz3
    simp
theorem l16Within_spec (a b c : Bool) (x : AlphaV) (ht : TOk x.depends) (u v : List Nat) (hu : WOk x.depends.length u) (hv : WOk x.depends.length v) : ACalls1 Tryz.prog 62 [alphaSl a x, .sl 1 b (ints (nats u)), .sl 1 c (ints (nats v))] (bv (withinN x.depends u v)) := by
  refine walk (fun _ => false) mixed Go.Proofs.Tryz.func62 rfl rfl rfl (by kernel_rfl) rfl (by simp) (by kernel_rfl) ?_
  simp
  refine ⟨_, l05Cut_spec a b c x ht u v hu hv, ?_⟩
  simp [withinN]
/-- What stands before a place and is tied to it, from the back. -/
def scanN (t : List Int) : List Nat → Int → List Nat → List Nat
  | [], _, acc => acc
  | b :: r, m, acc => if tb m b then scanN t r (ibits .or .i64 m (nth t b)) (b :: acc) else scanN t r m acc
def pastW (t : List Int) (u : List Nat) (i : Nat) : List Nat := scanN t (u.take i).reverse (nth t (natAt u i)) [natAt u i]
theorem take_rev {u : List Nat} {k : Nat} (h : k < u.length) : (u.take (k + 1)).reverse = natAt u k :: (u.take k).reverse := by
  rw [List.take_succ_eq_append_getElem h, List.reverse_append, natAt_at h]; rfl
theorem l16Past_spec (a b : Bool) (x : AlphaV) (hx : x.letters = x.depends.length) (ht : TOk x.depends) (u : List Nat) (hu : WOk x.depends.length u) (i : Nat) (hi : i < u.length) : ACalls1 Tryz.prog 61 [alphaSl a x, .sl 1 b (ints (nats u)), iv i] (.own 1 true (ints (nats (nf x.depends (pastW x.depends u i))))) := by
  have hd := ht.1
  obtain ⟨hu1, hu2⟩ := hu
  have hni := nats_nth hi
  have hmi := hu2 _ (natAt_mem hi)
  have hwi : IntKind.i64.wrap ((i : Int) - 1) = (i : Int) - 1 := wrap_id _ (by omega) (by omega)
  refine walk (fun _ => false) mixed Go.Proofs.Tryz.func61 rfl rfl rfl (by kernel_rfl) rfl (by simp) (by kernel_rfl) ?_
  simp [hi, hni, hmi]
  repeat (rw [exE_eq]; simp [hi, hni, hmi])
  rw [hwi]
  refine awp_loop2 [1, 3] [3] (fun q : Nat × Int × List Nat => [(9, iv ((q.1 : Int) - 1)), (8, iv q.2.1), (7, .ref 200)]) (fun q => [(200, .own 1 true (ints (nats q.2.2)))])
    (fun q => q.1 ≤ i ∧ M q.2.1 ∧ q.2.2.length + q.1 ≤ i + 1 ∧ (∀ c ∈ q.2.2, c < x.depends.length) ∧ scanN x.depends (u.take q.1).reverse q.2.1 q.2.2 = pastW x.depends u i) (fun q => q.1) (i, nth x.depends (natAt u i), [natAt u i]) (weak_mk (fun t => if t = 200 then some 14 else some t) (by simp) (by simp [nats, ints]) rfl) (by simp; exact ⟨ht.2 _ hmi, by omega, hmi, rfl⟩) ?_
  rintro ⟨k, m, acc⟩ ⟨hk, hm, hl, hac, hsc⟩
  simp only at hk hm hl hac hsc
  by_cases hlt : 0 < k
  · obtain ⟨j, rfl⟩ : ∃ j, k = j + 1 := ⟨k - 1, by omega⟩
    have hj : j < u.length := by omega
    have hij : (((j + 1 : Nat) : Int) - 1) = (j : Int) := by omega
    have hnj := nats_nth hj
    have hmj := hu2 _ (natAt_mem hj)
    have hwj : IntKind.i64.wrap ((j : Int) - 1) = (j : Int) - 1 := wrap_id _ (by omega) (by omega)
    rw [take_rev hj, scanN] at hsc
    rw [hij]
    generalize natAt u j = e at *
    simp [hj, hnj]
    refine ⟨_, l01Bit_spec m hm e (by omega), ?_⟩
    cases hb : tb m e
    · rw [hb, if_neg (by simp)] at hsc
      simp [hwj]
      exact Round.mk (j, m, acc) (weak_mk some (by simp) (by simp) rfl) ⟨by simp only; omega, hm, by simp only; omega, hac, hsc⟩ (by simp only; omega)
    · rw [hb, if_pos rfl] at hsc
      simp [hj, hnj, hmj, hwj]
      repeat (rw [exE_eq]; simp [hj, hnj, hmj, hwj])
      exact ⟨by omega, by omega, Round.mk (j, ibits .or .i64 m (nth x.depends e), e :: acc) (weak_mk (fun t => if t = 200 then some 41 else some t) (by simp) (by simp [nats, ints]) rfl) ⟨by simp only; omega, M_or hm (ht.2 _ hmj), by simp only [List.length_cons]; omega, fun c hc => by
        rcases List.mem_cons.1 hc with hc | hc
        · rw [hc]; exact hmj
        · exact hac c hc, hsc⟩ (by simp only; omega)⟩
  · obtain rfl : k = 0 := by omega
    simp only [List.take_zero, List.reverse_nil, scanN] at hsc
    subst hsc
    simp
    refine ⟨_, l03Normal_spec _ _ x hx ht _ ⟨by omega, hac⟩, ?_⟩
    simp
/-- Rows that ascend. -/
def Strict (rs : List (List Int)) : Prop := rs.Pairwise fun x y => cmpW x y < 0
/-- A row put into its place, once. -/
def putS (rs : List (List Int)) (w : List Int) : List (List Int) := if w ∈ rs then rs else insR cmpW w rs
theorem putS_mem {rs : List (List Int)} {w r : List Int} : r ∈ putS rs w ↔ r = w ∨ r ∈ rs := by
  unfold putS
  split
  · rename_i h
    constructor
    · intro h2; exact .inr h2
    · rintro (rfl | h2)
      · exact h
      · exact h2
  · rw [(insR_perm cmpW w rs).mem_iff, List.mem_cons]
theorem putS_len (rs : List (List Int)) (w : List Int) : (putS rs w).length ≤ rs.length + 1 := by
  unfold putS
  split
  · omega
  · rw [(insR_perm cmpW w rs).length_eq]; simp
theorem insR_strict {w : List Int} : ∀ {rs : List (List Int)}, Strict rs → ¬ w ∈ rs → Strict (insR cmpW w rs)
  | [], _, _ => by simp [insR, Strict]
  | y :: l, h, hn => by
    unfold Strict at *
    rw [List.pairwise_cons] at h
    simp only [List.mem_cons, not_or] at hn
    unfold insR; split
    · rename_i hlt
      rw [List.pairwise_cons]
      refine ⟨fun a ha => ?_, insR_strict h.2 hn.2⟩
      have := (insR_perm cmpW w l).mem_iff.1 ha
      rcases List.mem_cons.1 this with rfl | ha
      · exact hlt
      · exact h.1 a ha
    · rename_i hlt
      have hwy : cmpW w y < 0 := by
        rcases cmpW_tot.total w y with h2 | h2
        · by_cases e : cmpW w y = 0
          · exact absurd (cmpW_tot.zero _ _ e) hn.1
          · omega
        · exact absurd h2 hlt
      rw [List.pairwise_cons, List.pairwise_cons]
      refine ⟨fun a ha => ?_, h⟩
      rcases List.mem_cons.1 ha with rfl | ha
      · exact hwy
      · have h3 := h.1 a ha
        have h4 := cmpW_tot.trans w y a (by omega) (by omega)
        by_cases e : cmpW w a = 0
        · exact absurd (cmpW_tot.zero _ _ e) (fun e2 => hn.2 (e2 ▸ ha))
        · omega
theorem putS_strict {rs : List (List Int)} (h : Strict rs) (w : List Int) : Strict (putS rs w) := by
  unfold putS
  split
  · exact h
  · rename_i hn; exact insR_strict h hn
theorem strict_nthR {rs : List (List Int)} (h : Strict rs) {i j : Nat} (hij : i < j) (hj : j < rs.length) : cmpW (nthR rs i) (nthR rs j) < 0 := by
  rw [nthR_at (by omega), nthR_at hj]
  exact List.pairwise_iff_getElem.1 h i j (by omega) hj hij
theorem l12Put_set (b : Bool) (rs : List (List Int)) (hl : rs.length ≤ 1000000) (hr : ∀ r ∈ rs, Fits r) (w : List Int) (hw : Fits w) (hs : Strict rs) : ACalls1 Tryz.prog 60 [.sl 1 true (srows true rs), .sl 1 b (ints w)] (.sl 1 true (srows true (putS rs w))) := by
  by_cases hm : w ∈ rs
  · obtain ⟨j, hj, hje⟩ := List.mem_iff_getElem.1 hm
    rw [← nthR_at hj] at hje
    have hput : putS rs w = rs := by unfold putS; rw [if_pos hm]
    rw [hput]
    refine walk (fun t => t == 1034 || t == 3035) mixed Go.Proofs.Tryz.func60 rfl rfl rfl (by kernel_rfl) rfl (by simp) (by kernel_rfl) ?_
    simp
    refine awp_loop2 [0, 1] [] (fun k : Nat => [(5, iv k)]) (fun _ => []) (fun k => k ≤ j) (fun k => j - k) 0 (weak_mk some (by simp) (by simp) rfl) (by simp) ?_
    intro k hk
    have hkl : k < rs.length := by omega
    simp [hkl]
    refine ⟨_, l12Before_spec _ _ _ _ (hr _ (nthR_mem hkl)) hw, ?_⟩
    by_cases hkj : k < j
    · have hlt : cmpW (nthR rs k) w < 0 := by rw [← hje]; exact strict_nthR hs hkj hj
      simp [hlt]
      rw [wrap_id ((k : Int) + 1) (by unfold Fits at *; omega) (by omega)]
      exact Round.mk (k + 1) (weak_mk some (by simp) (by simp) rfl) hkj (by omega)
    · obtain rfl : k = j := by omega
      have h0 : ¬ cmpW (nthR rs k) w < 0 := by rw [hje, cmpW_tot.self]; omega
      simp [h0, hkl]
      refine ⟨_, l01Same_spec _ _ _ _ (hr _ (nthR_mem hkl)) hw, ?_⟩
      simp [hje]
  · have hput : putS rs w = insR cmpW w rs := by unfold putS; rw [if_neg hm]
    rw [hput]
    refine walk (fun t => t == 1034 || t == 3035) mixed Go.Proofs.Tryz.func60 rfl rfl rfl (by kernel_rfl) rfl (by simp) (by kernel_rfl) ?_
    simp
    refine awp_loop2 [0, 1] [] (fun k : Nat => [(5, iv k)]) (fun _ => []) (fun k => k ≤ rs.length ∧ ∀ i, i < k → cmpW (nthR rs i) w < 0) (fun k => rs.length - k) 0 (weak_mk some (by simp) (by simp) rfl) ⟨by simp, by simp⟩ ?_
    rintro k ⟨hk, hp⟩
    have stop : (k < rs.length → ¬ cmpW (nthR rs k) w < 0) → k = insRAt cmpW w rs := fun h => insRAt_eq hk hp h
    by_cases hkl : k < rs.length
    · simp [hkl]
      refine ⟨_, l12Before_spec _ _ _ _ (hr _ (nthR_mem hkl)) hw, ?_⟩
      by_cases hkn : cmpW (nthR rs k) w < 0
      · simp [hkn, wrap_id ((k : Int) + 1) (by omega) (by omega)]
        refine Round.mk (k + 1) (weak_mk some (by simp) (by simp) rfl) ⟨hkl, fun i hi => ?_⟩ (by omega)
        by_cases e : i = k
        · subst e; exact hkn
        · exact hp i (by omega)
      · have hat := stop (fun _ => hkn)
        have hne : ¬ nthR rs k = w := fun e => hm (e ▸ nthR_mem hkl)
        rw [insR_eq, ← hat]
        simp [hkl, hkn]
        refine ⟨_, l01Same_spec _ _ _ _ (hr _ (nthR_mem hkl)) hw, ?_⟩
        simp [hne]
        refine ⟨_, l01Own_spec _ w hw, ?_⟩
        have h2 : (rs.drop k).take (rs.length - k) = rs.drop k := List.take_of_length_le (by simp)
        have hmin : min k rs.length = k := by omega
        simp [srows_drop, srows_take, h2, hmin]
        repeat (refine And.intro (by first | omega | exact ⟨by kernel_rfl, by kernel_rfl⟩) ?_)
        right
        rw [← srows_cons, ← srows_append, srows_view]
        exact .refl _
    · have hat := stop (fun h => absurd h hkl)
      obtain rfl : k = rs.length := by omega
      rw [insR_eq, ← hat]
      simp
      refine ⟨_, l01Own_spec _ w hw, ?_⟩
      simp [srows_drop, srows_take]
      first | refine ⟨⟨by kernel_rfl, by kernel_rfl⟩, ?_⟩ | exact ⟨by kernel_rfl, by kernel_rfl⟩
      omega
/-- A list of words that ascends. -/
def stepOk (n : Nat) (rs : List (List Int)) (i : Nat) : Bool := overW n (nthR rs i) && (i == 0 || decide (cmpW (nthR rs (i - 1)) (nthR rs i) < 0))
def listOk (n : Nat) (rs : List (List Int)) : Bool := (List.range rs.length).all (stepOk n rs) && decide (rs.length ≤ 40)
theorem l12Is_spec (a b c : Bool) (x : AlphaV) (hx : isAlphaV x = true) (rs : List (List Int)) (hl : rs.length ≤ 2000000) (hr : ∀ r ∈ rs, Fits r) : ACalls1 Tryz.prog 110 [alphaSl a x, .sl 1 b (srows c rs)] (bv (listOk x.depends.length rs)) := by
  have hok := alOk_of hx
  have h8 := hok.len
  have hlet := hok.let_
  refine walk (fun _ => false) mixed Go.Proofs.Tryz.func110 rfl rfl rfl (by kernel_rfl) rfl (by simp) (by kernel_rfl) ?_
  simp
  refine awp_loop2 [1, 2] [2] (fun k : Nat => [(5, iv k)]) (fun _ => []) (fun k => k ≤ rs.length ∧ ∀ i, i < k → stepOk x.depends.length rs i = true) (fun k => rs.length - k) 0 (weak_mk some (by simp) (by simp) rfl) ⟨by simp, by simp⟩ ?_
  rintro k ⟨hk, hall⟩
  by_cases hlt : k < rs.length
  · have hno : stepOk x.depends.length rs k = false → listOk x.depends.length rs = false := fun h => by
      unfold listOk
      rw [Bool.and_eq_false_iff]; left
      rw [← Bool.not_eq_true, List.all_eq_true]
      intro h2
      rw [h2 k (List.mem_range.2 hlt)] at h; cases h
    have hyes : stepOk x.depends.length rs k = true → ∀ i, i < k + 1 → stepOk x.depends.length rs i = true := fun h i hi => by
      by_cases e : i = k
      · subst e; exact h
      · exact hall i (by omega)
    simp [hlt, hlet]
    repeat (rw [exE_eq]; simp [hlt, hlet])
    refine ⟨_, l11Word_spec x.depends.length (by omega) c (nthR rs k) (hr _ (nthR_mem hlt)), ?_⟩
    cases ho : overW x.depends.length (nthR rs k)
    · rw [hno (by unfold stepOk; rw [ho]; rfl)]
      simp
      repeat (rw [exE_eq]; simp)
    · by_cases hk0 : k = 0
      · subst hk0
        have h1 : IntKind.i64.wrap 1 = 1 := by decide
        simp [h1]
        repeat (rw [exE_eq]; simp [h1])
        exact Round.mk 1 (weak_mk some (by simp) (by simp) rfl) ⟨hlt, hyes (by unfold stepOk; rw [ho]; rfl)⟩ (by omega)
      · have hw1 : IntKind.i64.wrap ((k : Int) - 1) = ((k - 1 : Nat) : Int) := by rw [wrap_id _ (by omega) (by omega)]; omega
        have hwk : IntKind.i64.wrap ((k : Int) + 1) = ((k + 1 : Nat) : Int) := by rw [wrap_id _ (by omega) (by omega)]; omega
        simp [show 0 < k by omega, hw1, hlt, show k - 1 < rs.length by omega]
        repeat (rw [exE_eq]; simp [show 0 < k by omega, hw1, hlt, show k - 1 < rs.length by omega])
        refine ⟨_, l12Before_spec _ _ _ _ (hr _ (nthR_mem (show k - 1 < rs.length by omega))) (hr _ (nthR_mem hlt)), ?_⟩
        by_cases hlt2 : cmpW (nthR rs (k - 1)) (nthR rs k) < 0
        · simp [hlt2, hwk]
          exact Round.mk (k + 1) (weak_mk some (by simp) (by simp) rfl) ⟨hlt, hyes (by unfold stepOk; rw [ho]; simp [hlt2])⟩ (by omega)
        · rw [hno (by unfold stepOk; rw [ho]; simp [hlt2, hk0])]
          simp [hlt2]
  · obtain rfl : k = rs.length := by omega
    have : listOk x.depends.length rs = decide (rs.length ≤ 40) := by
      unfold listOk
      rw [show (List.range rs.length).all (stepOk x.depends.length rs) = true from List.all_eq_true.2 fun i hi => hall i (List.mem_range.1 hi)]
      rfl
    rw [this]
    simp
    omega
def isFin (x : AlphaV) (rs : List (List Int)) : Bool := isAlphaV x && listOk x.depends.length rs
theorem specIsFinite_spec (a b c : Bool) (x : AlphaV) (hx : I64 x.letters) (hd : Fits x.depends) (rs : List (List Int)) (hl : rs.length ≤ 2000000) (hr : ∀ r ∈ rs, Fits r) : ACalls1 Tryz.prog 41 [alphaSl a x, .sl 1 b (srows c rs)] (bv (isFin x rs)) := by
  unfold isFin
  refine walk (fun _ => false) mixed Go.Proofs.Tryz.func41 rfl rfl rfl (by kernel_rfl) rfl (by simp) (by kernel_rfl) ?_
  simp
  refine ⟨_, l02Is_spec a x hx hd, ?_⟩
  cases h : isAlphaV x
  · simp
    repeat (rw [exE_eq]; simp)
  · simp
    repeat (rw [exE_eq]; simp)
    refine ⟨_, l12Is_spec a b c x h rs hl hr, ?_⟩
    simp
theorem scan_ok {t : List Int} {n : Nat} : ∀ (r : List Nat) (m : Int) (acc : List Nat), (∀ c ∈ r, c < n) → (∀ c ∈ acc, c < n) →
    (∀ c ∈ scanN t r m acc, c < n) ∧ acc.length ≤ (scanN t r m acc).length ∧ (scanN t r m acc).length ≤ acc.length + r.length
  | [], m, acc, _, h => ⟨h, Nat.le_refl _, by simp [scanN]⟩
  | b :: r, m, acc, hr, h => by
    have hb := hr b (by simp)
    have hr' : ∀ c ∈ r, c < n := fun c hc => hr c (by simp [hc])
    rw [scanN]
    split
    · obtain ⟨a1, a2, a3⟩ := scan_ok (t := t) r (ibits .or .i64 m (nth t b)) (b :: acc) hr' (fun c hc => by
        rcases List.mem_cons.1 hc with rfl | hc
        · exact hb
        · exact h c hc)
      simp only [List.length_cons] at a2 a3 ⊢
      exact ⟨a1, by omega, by omega⟩
    · obtain ⟨a1, a2, a3⟩ := scan_ok (t := t) r m acc hr' h
      simp only [List.length_cons]
      exact ⟨a1, a2, by omega⟩
theorem pastW_ok {t : List Int} {n : Nat} {u : List Nat} (hu : ∀ c ∈ u, c < n) {i : Nat} (hi : i < u.length) : (∀ c ∈ pastW t u i, c < n) ∧ 1 ≤ (pastW t u i).length ∧ (pastW t u i).length ≤ i + 1 := by
  obtain ⟨a1, a2, a3⟩ := scan_ok (t := t) (n := n) (u.take i).reverse (nth t (natAt u i)) [natAt u i] (fun c hc => hu c (List.mem_of_mem_take (List.mem_reverse.1 hc))) (fun c hc => by
    simp at hc; rw [hc]; exact hu _ (natAt_mem hi))
  simp at a2 a3
  exact ⟨a1, a2, by unfold pastW; omega⟩
/-- The prime that ends at a place of a word. -/
def primeR (t : List Int) (w : List Int) (i : Nat) : List Int := nats (nf t (pastW t (wn w) i))
/-- Words that can be primes. -/
def PrOk (n : Nat) (r : List Int) : Prop := overW n r = true ∧ 0 < r.length
theorem overW_of_nats {n : Nat} {v : List Nat} (h : ∀ c ∈ v, c < n) (h24 : v.length ≤ 24) : overW n (nats v) = true := by
  unfold overW
  simp only [nats_length, Bool.and_eq_true, decide_eq_true_eq, List.all_eq_true]
  refine ⟨by omega, fun y hy => ?_⟩
  obtain ⟨c, hc, rfl⟩ := List.mem_map.1 hy
  have := h c hc
  omega
theorem primeR_ok {t : List Int} (ht : TOk t) {w : List Int} (hw : overW t.length w = true) {i : Nat} (hi : i < w.length) : PrOk t.length (primeR t w i) := by
  obtain ⟨e, hu, h24⟩ := overW_wn hw
  have hl : (wn w).length = w.length := by simp [wn]
  obtain ⟨a1, a2, a3⟩ := pastW_ok (t := t) hu.2 (i := i) (by omega)
  have hp := nf_perm ht _ rfl a1
  have hl2 := hp.length_eq
  refine ⟨overW_of_nats (fun c hc => a1 c (hp.mem_iff.1 hc)) (by omega), by simp [primeR]; omega⟩
/-- Whether the trace of one word is a prefix of that of another one. -/
def withinI (t : List Int) (u v : List Int) : Bool := withinN t (wn u) (wn v)
def belQ (t : List Int) (P : List (List Int)) (f e : Nat) : Bool := decide (e ≠ f) && withinI t (nthR P e) (nthR P f)
def belowF (t : List Int) (P : List (List Int)) (f : Nat) : Int := orMask 0 (belQ t P f) P.length
def labF (P : List (List Int)) (f : Nat) : Int := nth (nthR P f) ((nthR P f).length - 1)
def belowS (t : List Int) (P : List (List Int)) (k : Nat) : List Int := (List.range k).map (belowF t P)
def labS (P : List (List Int)) (k : Nat) : List Int := (List.range k).map (labF P)
theorem belowS_succ (t : List Int) (P : List (List Int)) (k : Nat) : belowS t P (k + 1) = belowS t P k ++ [belowF t P k] := by simp [belowS, List.range_succ]
theorem labS_succ (P : List (List Int)) (k : Nat) : labS P (k + 1) = labS P k ++ [labF P k] := by simp [labS, List.range_succ]
@[simp] theorem belowS_length (t : List Int) (P : List (List Int)) (k : Nat) : (belowS t P k).length = k := by simp [belowS]
@[simp] theorem labS_length (P : List (List Int)) (k : Nat) : (labS P k).length = k := by simp [labS]
theorem l16Build_spec (a b c d : Bool) (x : AlphaV) (ht : TOk x.depends) (P : List (List Int)) (hP : P.length ≤ 16) (hr : ∀ r ∈ P, PrOk x.depends.length r) (cl : List Int) :
    ACalls2 Tryz.prog 64 [alphaSl a x, .sl 1 b (srows c P), .own 1 d (ints cl)] [alphaSl a x, .sl 1 b (srows c P), .junk] (strucOw false d false ⟨belowS x.depends P P.length, cl, labS P P.length⟩) := by
  have hd := ht.1
  refine walkJ (fun t => t == 1050) [false, false, true] mixed Go.Proofs.Tryz.func64 rfl rfl rfl (by kernel_rfl) (by simp) (by simp) (by simp) (by kernel_rfl) ?_
  simp
  refine awp_loop2 [1, 3, 6, 7] [3, 6, 1000000002] (fun f : Nat => [(8, iv f)]) (fun f => [(7, .box [.ref 200, .ref 1000000002, .ref 202]), (200, .own 1 false (ints (belowS x.depends P f))), (202, .own 1 false (ints (labS P f)))]) (fun f => f ≤ P.length) (fun f => P.length - f) 0 (weak_mk (fun t => if t = 200 then none else if t = 202 then none else some t) (by simp) (by simp [belowS, labS]) rfl) (by simp) ?_
  intro f hf
  by_cases hlf : f < P.length
  · obtain ⟨o1, o2⟩ := hr _ (nthR_mem hlf)
    obtain ⟨e1, hu1, h24⟩ := overW_wn o1
    simp [hlf]
    refine awp_loop2 [1, 3, 6, 7, 8] [3, 6, 7, 200, 202, 1000000002] (fun e : Nat => [(10, iv e), (9, iv (orMask 0 (belQ x.depends P f) e))]) (fun _ => []) (fun e => e ≤ P.length) (fun e => P.length - e) 0 (weak_mk some (by simp [orMask]) (by simp) rfl) (by simp) ?_
    intro e he
    by_cases hle : e < P.length
    · obtain ⟨p1, p2⟩ := hr _ (nthR_mem hle)
      obtain ⟨e2, hu2, h24'⟩ := overW_wn p1
      have hwe : IntKind.i64.wrap ((e : Int) + 1) = ((e + 1 : Nat) : Int) := by rw [wrap_id _ (by omega) (by omega)]; omega
      have hstep : orMask 0 (belQ x.depends P f) (e + 1) = if belQ x.depends P f e = true then ibits .or .i64 (orMask 0 (belQ x.depends P f) e) (pow1 e) else orMask 0 (belQ x.depends P f) e := rfl
      generalize orMask 0 (belQ x.depends P f) e = mk at *
      by_cases hef : e = f
      · subst hef
        rw [if_neg (by simp [belQ])] at hstep
        simp [hle]
        repeat (rw [exE_eq]; simp [hle])
        rw [hwe]
        exact Round.mk (e + 1) (weak_mk some (by simp [hstep]) (by simp) rfl) hle (by omega)
      · have hef' : ¬ (e : Int) = (f : Int) := by omega
        have hc := l16Within_spec a c c x ht (wn (nthR P e)) (wn (nthR P f)) hu2 hu1
        rw [← e1, ← e2] at hc
        rw [show withinN x.depends (wn (nthR P e)) (wn (nthR P f)) = withinI x.depends (nthR P e) (nthR P f) from rfl] at hc
        simp [hle, hlf, hef, hef']
        repeat (rw [exE_eq]; simp [hle, hlf, hef, hef'])
        refine ⟨_, hc, ?_⟩
        cases hb : withinI x.depends (nthR P e) (nthR P f)
        · rw [if_neg (by simp [belQ, hb])] at hstep
          simp [hwe]
          exact Round.mk (e + 1) (weak_mk some (by simp [hstep]) (by simp) rfl) hle (by omega)
        · rw [if_pos (by simp [belQ, hb, hef])] at hstep
          simp
          refine ⟨_, l01One_spec e (by unfold I64; omega), ?_⟩
          simp [hwe]
          exact Round.mk (e + 1) (weak_mk some (by simp [hstep]) (by simp) rfl) hle (by omega)
    · obtain rfl : e = P.length := by omega
      have hwl : IntKind.i64.wrap (((nthR P f).length : Int) - 1) = (((nthR P f).length - 1 : Nat) : Int) := by rw [wrap_id _ (by have := overW_len o1; omega) (by have := overW_len o1; omega)]; omega
      have hwf : IntKind.i64.wrap ((f : Int) + 1) = ((f + 1 : Nat) : Int) := by rw [wrap_id _ (by omega) (by omega)]; omega
      simp [hlf, hwl, show (nthR P f).length - 1 < (nthR P f).length by omega]
      repeat (refine And.intro (by first | omega | exact ⟨by kernel_rfl, by kernel_rfl⟩) ?_)
      simp [hwf]
      exact Round.mk (f + 1) (weak_mk (fun t => if t = 200 then some 48 else if t = 202 then some 65 else some t) (by simp) (by simp [belowS_succ, labS_succ, belowF, labF]) rfl) hlf (by omega)
  · obtain rfl : f = P.length := by omega
    simp
def primesRow (t : List Int) (w : List Int) (acc : List (List Int)) (k : Nat) : List (List Int) := (List.range k).foldl (fun acc i => putS acc (primeR t w i)) acc
def primesS (t : List Int) (rs : List (List Int)) (k : Nat) : List (List Int) := (rs.take k).foldl (fun acc w => primesRow t w acc w.length) []
theorem primesRow_succ (t : List Int) (w : List Int) (acc : List (List Int)) (k : Nat) : primesRow t w acc (k + 1) = putS (primesRow t w acc k) (primeR t w k) := by
  unfold primesRow; rw [List.range_succ, List.foldl_append]; rfl
theorem primesS_succ {t : List Int} {rs : List (List Int)} {k : Nat} (h : k < rs.length) : primesS t rs (k + 1) = primesRow t (nthR rs k) (primesS t rs k) (nthR rs k).length := by
  unfold primesS
  rw [List.take_succ_eq_append_getElem h, List.foldl_append, nthR_at h]; rfl
/-- Primes in order. -/
structure PrimesOk (n L : Nat) (P : List (List Int)) : Prop where
  st : Strict P
  ok : ∀ r ∈ P, PrOk n r
  len : P.length ≤ L
theorem primesRow_ok {t : List Int} (ht : TOk t) {w : List Int} (hw : overW t.length w = true) {L : Nat} {acc : List (List Int)} (h : PrimesOk t.length L acc) : ∀ k, k ≤ w.length → PrimesOk t.length (L + k) (primesRow t w acc k)
  | 0, _ => h
  | k + 1, hk => by
    have ih := primesRow_ok ht hw h k (by omega)
    rw [primesRow_succ]
    have hl := putS_len (primesRow t w acc k) (primeR t w k)
    refine ⟨putS_strict ih.st _, fun r hr => ?_, by have := ih.len; omega⟩
    rcases putS_mem.1 hr with rfl | hr
    · exact primeR_ok ht hw (by omega)
    · exact ih.ok r hr
theorem primesS_ok {t : List Int} (ht : TOk t) {rs : List (List Int)} (hr : ∀ r ∈ rs, overW t.length r = true) : ∀ k, k ≤ rs.length → PrimesOk t.length (24 * k) (primesS t rs k)
  | 0, _ => ⟨List.Pairwise.nil, fun r hr => by simp [primesS] at hr, by simp [primesS]⟩
  | k + 1, hk => by
    have ih := primesS_ok ht hr k (by omega)
    rw [primesS_succ (by omega)]
    have hw := hr _ (nthR_mem (show k < rs.length by omega))
    have h2 := primesRow_ok ht hw ih (nthR rs k).length (Nat.le_refl _)
    exact ⟨h2.st, h2.ok, by have := h2.len; have := overW_len hw; omega⟩
def togQ (t : List Int) (rs : List (List Int)) (u v : List Int) : Bool := rs.any fun w => withinI t u w && withinI t v w
def clashQ (t : List Int) (rs P : List (List Int)) (e f : Nat) : Bool := !togQ t rs (nthR P e) (nthR P f)
def clashF (t : List Int) (rs P : List (List Int)) (e : Nat) : Int := orMask 0 (clashQ t rs P e) P.length
def clashS (t : List Int) (rs P : List (List Int)) (k : Nat) : List Int := (List.range k).map (clashF t rs P)
theorem clashS_succ (t : List Int) (rs P : List (List Int)) (k : Nat) : clashS t rs P (k + 1) = clashS t rs P k ++ [clashF t rs P k] := by simp [clashS, List.range_succ]
@[simp] theorem clashS_length (t : List Int) (rs P : List (List Int)) (k : Nat) : (clashS t rs P k).length = k := by simp [clashS]
/-- The structure of primes, where a list of words tells which stand together. -/
def structP (t : List Int) (rs P : List (List Int)) : StrucV := ⟨belowS t P P.length, clashS t rs P P.length, labS P P.length⟩
def structV (x : AlphaV) (rs : List (List Int)) : StrucV × Int :=
  if isFin x rs = true then (if (primesS x.depends rs rs.length).length ≤ 16 then (structP x.depends rs (primesS x.depends rs rs.length), 0) else (⟨[], [], []⟩, 3)) else (⟨[], [], []⟩, 1)
theorem isFin_rows {x : AlphaV} {rs : List (List Int)} (h : isFin x rs = true) : isAlphaV x = true ∧ (∀ r ∈ rs, overW x.depends.length r = true) ∧ rs.length ≤ 40 := by
  unfold isFin listOk at h
  simp only [Bool.and_eq_true, decide_eq_true_eq, List.all_eq_true, List.mem_range] at h
  refine ⟨h.1, fun r hr => ?_, h.2.2⟩
  obtain ⟨i, hi, rfl⟩ := List.mem_iff_getElem.1 hr
  have := h.2.1 i hi
  unfold stepOk at this
  simp only [Bool.and_eq_true] at this
  rw [← nthR_at hi]; exact this.1
theorem any_take {rs : List (List Int)} {p : List Int → Bool} {k : Nat} (h : k < rs.length) : (rs.take (k + 1)).any p = ((rs.take k).any p || p (nthR rs k)) := by
  rw [List.take_succ_eq_append_getElem h, List.any_append, nthR_at h]; simp
theorem specStructureOfTraces_spec (a b c : Bool) (x : AlphaV) (hx : I64 x.letters) (hd : Fits x.depends) (rs : List (List Int)) (hl : rs.length ≤ 2000000) (hr : ∀ r ∈ rs, Fits r) :
    ACalls1 Tryz.prog 11 [alphaSl a x, .sl 1 b (srows c rs)] (.tup [strucOw false false false (structV x rs).1, iv (structV x rs).2]) := by
  refine walk (fun t => t == 4020 || t == 1036 || t == 3043 || t == 2106) mixed Go.Proofs.Tryz.func11 rfl rfl rfl (by kernel_rfl) rfl (by simp) (by kernel_rfl) ?_
  simp
  refine ⟨_, specIsFinite_spec a b c x hx hd rs hl hr, ?_⟩
  unfold structV
  cases hfin : isFin x rs
  · simp
  · obtain ⟨hal, hov, h40⟩ := isFin_rows hfin
    have hok := alOk_of hal
    have h8 := hok.len
    have hlet := hok.let_
    have ht : TOk x.depends := ⟨by omega, fun i hi => (alOk_M hok hi).1⟩
    simp
    refine awp_loop2 [1, 2, 4] [2, 4] (fun i : Nat => [(7, iv i), (6, .sl 1 true (srows true (primesS x.depends rs i)))]) (fun _ => []) (fun i => i ≤ rs.length) (fun i => rs.length - i) 0 (weak_mk some (by simp [primesS]) (by simp) rfl) (by simp) ?_
    intro i hi
    have hPi := primesS_ok ht hov i hi
    by_cases hli : i < rs.length
    · have how := hov _ (nthR_mem hli)
      obtain ⟨e1, hu1, h24⟩ := overW_wn how
      have hwl : (wn (nthR rs i)).length = (nthR rs i).length := by simp [wn]
      have hsucc := primesS_succ (t := x.depends) hli
      simp [hli]
      refine awp_loop2 [1, 2, 4, 7] [2, 4] (fun k : Nat => [(8, iv k), (6, .sl 1 true (srows true (primesRow x.depends (nthR rs i) (primesS x.depends rs i) k)))]) (fun _ => []) (fun k => k ≤ (nthR rs i).length) (fun k => (nthR rs i).length - k) 0 (weak_mk some (by simp [primesRow]) (by simp) rfl) (by simp) ?_
      intro k hk
      by_cases hlk : k < (nthR rs i).length
      · have hPk := primesRow_ok ht how hPi k hk
        have hs2 := primesRow_succ x.depends (nthR rs i) (primesS x.depends rs i) k
        have hpr := primeR_ok ht how hlk
        have hc := l16Past_spec a c x hlet ht (wn (nthR rs i)) hu1 k (by omega)
        rw [← e1] at hc
        rw [show nats (nf x.depends (pastW x.depends (wn (nthR rs i)) k)) = primeR x.depends (nthR rs i) k from rfl] at hc
        have hput := l12Put_set true (primesRow x.depends (nthR rs i) (primesS x.depends rs i) k) (by have := hPk.len; have := overW_len how; omega) (fun r hr => by have := overW_len (hPk.ok r hr).1; unfold Fits; omega) (primeR x.depends (nthR rs i) k) (by have := overW_len hpr.1; unfold Fits; omega) hPk.st
        rw [← hs2] at hput
        generalize primesRow x.depends (nthR rs i) (primesS x.depends rs i) k = acc at *
        simp [hli, hlk]
        repeat (rw [exE_eq]; simp [hli, hlk])
        refine ⟨_, hc, ?_⟩
        simp
        refine ⟨_, hput, ?_⟩
        simp
        first | refine ⟨⟨by kernel_rfl, by kernel_rfl⟩, ?_⟩ | exact ⟨by kernel_rfl, by kernel_rfl⟩
        rw [wrap_id ((k : Int) + 1) (by omega) (by omega)]
        exact Round.mk (k + 1) (weak_mk some (by simp) (by simp) rfl) hlk (by omega)
      · obtain rfl : k = (nthR rs i).length := by omega
        simp [hli]
        rw [wrap_id ((i : Int) + 1) (by omega) (by omega)]
        exact Round.mk (i + 1) (weak_mk some (by simp [hsucc]) (by simp) rfl) hli (by omega)
    · obtain rfl : i = rs.length := by omega
      generalize primesS x.depends rs rs.length = P at *
      by_cases h16 : P.length ≤ 16
      · simp [show ¬ (16 : Int) < (P.length : Int) by omega, h16]
        refine awp_loop2 [1, 2, 4, 6] [2, 4] (fun e : Nat => [(10, iv e), (9, .ref 200)]) (fun e => [(200, .own 1 true (ints (clashS x.depends rs P e)))]) (fun e => e ≤ P.length) (fun e => P.length - e) 0 (weak_mk (fun t => if t = 200 then some 49 else some t) (by simp) (by simp [clashS]) rfl) (by simp) ?_
        intro e he
        by_cases hle : e < P.length
        · obtain ⟨o1, o2⟩ := hPi.ok _ (nthR_mem hle)
          obtain ⟨e1, hu1, _⟩ := overW_wn o1
          have hs4 := clashS_succ x.depends rs P e
          have hF : clashF x.depends rs P e = orMask 0 (clashQ x.depends rs P e) P.length := rfl
          simp [hle]
          refine awp_loop2 [1, 2, 4, 6, 9, 10] [2, 4, 200] (fun f : Nat => [(12, iv f), (11, iv (orMask 0 (clashQ x.depends rs P e) f))]) (fun _ => []) (fun f => f ≤ P.length) (fun f => P.length - f) 0 (weak_mk some (by simp [orMask]) (by simp) rfl) (by simp) ?_
          intro f hf
          by_cases hlf : f < P.length
          · obtain ⟨p1, p2⟩ := hPi.ok _ (nthR_mem hlf)
            obtain ⟨e2, hu2, _⟩ := overW_wn p1
            have hstep : orMask 0 (clashQ x.depends rs P e) (f + 1) = if clashQ x.depends rs P e f = true then ibits .or .i64 (orMask 0 (clashQ x.depends rs P e) f) (pow1 f) else orMask 0 (clashQ x.depends rs P e) f := rfl
            have hwf : IntKind.i64.wrap ((f : Int) + 1) = ((f + 1 : Nat) : Int) := by rw [wrap_id _ (by omega) (by omega)]; omega
            generalize orMask 0 (clashQ x.depends rs P e) f = mk at *
            simp [hlf]
            refine awp_loop2 [1, 2, 4, 6, 9, 10, 11, 12] [2, 4, 200] (fun j : Nat => [(14, iv j), (13, bv ((rs.take j).any fun w => withinI x.depends (nthR P e) w && withinI x.depends (nthR P f) w))]) (fun _ => []) (fun j => j ≤ rs.length) (fun j => rs.length - j) 0 (weak_mk some (by simp) (by simp) rfl) (by simp) ?_
            intro j hj
            by_cases hlj : j < rs.length
            · have how := hov _ (nthR_mem hlj)
              obtain ⟨e3, hu3, _⟩ := overW_wn how
              have hst := any_take (p := fun w => withinI x.depends (nthR P e) w && withinI x.depends (nthR P f) w) hlj
              have hc1 := l16Within_spec a true c x ht (wn (nthR P e)) (wn (nthR rs j)) hu1 hu3
              have hc2 := l16Within_spec a true c x ht (wn (nthR P f)) (wn (nthR rs j)) hu2 hu3
              rw [← e1, ← e3] at hc1
              rw [← e2, ← e3] at hc2
              rw [show withinN x.depends (wn (nthR P e)) (wn (nthR rs j)) = withinI x.depends (nthR P e) (nthR rs j) from rfl] at hc1
              rw [show withinN x.depends (wn (nthR P f)) (wn (nthR rs j)) = withinI x.depends (nthR P f) (nthR rs j) from rfl] at hc2
              have hwj : IntKind.i64.wrap ((j : Int) + 1) = ((j + 1 : Nat) : Int) := by rw [wrap_id _ (by omega) (by omega)]; omega
              generalize hB : ((rs.take j).any fun w => withinI x.depends (nthR P e) w && withinI x.depends (nthR P f) w) = B at *
              cases B
              · simp [hle, hlf, hlj]
                repeat (rw [exE_eq]; simp [hle, hlf, hlj])
                refine ⟨_, hc1, ?_⟩
                cases hb1 : withinI x.depends (nthR P e) (nthR rs j)
                · simp
                  repeat (rw [exE_eq]; simp [hle, hlf, hlj])
                  try simp [hwj]
                  exact Round.mk (j + 1) (weak_mk some (by simp [hst, hb1]) (by simp) rfl) hlj (by omega)
                · simp [hle, hlf, hlj]
                  repeat (rw [exE_eq]; simp [hle, hlf, hlj])
                  refine ⟨_, hc2, ?_⟩
                  simp
                  repeat (rw [exE_eq]; simp [hle, hlf, hlj])
                  try simp [hwj]
                  exact Round.mk (j + 1) (weak_mk some (by simp [hst, hb1]) (by simp) rfl) hlj (by omega)
              · simp [hlj]
                repeat (rw [exE_eq]; simp [hle, hlf, hlj])
                try simp [hwj]
                exact Round.mk (j + 1) (weak_mk some (by simp [hst]) (by simp) rfl) hlj (by omega)
            · obtain rfl : j = rs.length := by omega
              have hq : clashQ x.depends rs P e f = !(rs.any fun w => withinI x.depends (nthR P e) w && withinI x.depends (nthR P f) w) := rfl
              simp only [List.take_length]
              generalize (rs.any fun w => withinI x.depends (nthR P e) w && withinI x.depends (nthR P f) w) = B at *
              rw [hq] at hstep
              cases B
              · rw [if_pos (by simp)] at hstep
                simp
                refine ⟨_, l01One_spec f (by unfold I64; omega), ?_⟩
                simp [hwf]
                exact Round.mk (f + 1) (weak_mk some (by simp [hstep]) (by simp) rfl) hlf (by omega)
              · rw [if_neg (by simp)] at hstep
                simp [hwf]
                exact Round.mk (f + 1) (weak_mk some (by simp [hstep]) (by simp) rfl) hlf (by omega)
          · obtain rfl : f = P.length := by omega
            simp
            rw [wrap_id ((e : Int) + 1) (by omega) (by omega)]
            exact ⟨by omega, by omega, Round.mk (e + 1) (weak_mk (fun t => if t = 200 then some 102 else some t) (by simp) (by simp [hs4, hF]) rfl) hle (by omega)⟩
        · obtain rfl : e = P.length := by omega
          simp
          refine ⟨_, _, l16Build_spec a true true true x ht P h16 hPi.ok _, ?_⟩
          simp [structP]
      · simp [h16, show (16 : Int) < (P.length : Int) by omega]
end Go.AM
