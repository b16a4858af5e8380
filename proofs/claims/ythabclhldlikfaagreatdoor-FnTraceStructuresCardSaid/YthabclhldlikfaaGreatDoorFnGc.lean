/-
  Contracts: the alphabet of places, the order of the positions of a word.
-/
import Derived.Test.YthabclhldlikfaaGreatDoorFnGb
import Derived.Test.YthabclhldlikfaaGreatDoorFnH
set_option linter.unusedVariables false
set_option linter.unusedSimpArgs false
set_option maxRecDepth 100000
set_option maxHeartbeats 1600000
namespace Go.AM
open Go.Proofs
theorem set_nthG {l : List Int} {k : Nat} : l.set k (nth l k) = l := by
  by_cases h : k < l.length
  · rw [nth_at h]; simp
  · rw [List.set_eq_of_length_le (by omega)]
/-- Rows that are filled one after the other, place by place. -/
def growT (B : Nat → Int) (T : Nat → Nat → Bool) (n k j : Nat) : List Int := (List.range n).map fun a => if a < k then orMask (B a) (T a) n else if a = k then orMask (B a) (T a) j else B a
theorem growT_length (B : Nat → Int) (T : Nat → Nat → Bool) (n k j : Nat) : (growT B T n k j).length = n := by simp [growT]
theorem growT_nth {B : Nat → Int} {T : Nat → Nat → Bool} {n k j : Nat} (h : k < n) : nth (growT B T n k j) k = orMask (B k) (T k) j := by
  rw [nth_at (by rw [growT_length]; exact h)]; simp [growT]
theorem growT_set {B : Nat → Int} {T : Nat → Nat → Bool} {n k j : Nat} : (growT B T n k j).set k (orMask (B k) (T k) (j + 1)) = growT B T n k (j + 1) := by
  apply List.ext_getElem
  · simp [growT]
  · intro i h1 h2
    simp only [List.getElem_set, growT, List.getElem_map, List.getElem_range]
    grind
theorem growT_next {B : Nat → Int} {T : Nat → Nat → Bool} {n k : Nat} : growT B T n k n = growT B T n (k + 1) 0 := by
  unfold growT
  apply List.map_congr_left
  intro a ha
  by_cases h1 : a < k
  · simp [h1, show a < k + 1 by omega]
  · by_cases h2 : a = k
    · subst h2; simp
    · simp [h1, h2, show ¬ a < k + 1 by omega]
      intro h3; subst h3; rfl
theorem growT_start {B : Nat → Int} {T : Nat → Nat → Bool} {n : Nat} : growT B T n 0 0 = (List.range n).map B := by
  unfold growT
  apply List.map_congr_left
  intro a ha
  by_cases h2 : a = 0
  · subst h2; simp [orMask]
  · simp [h2]
theorem growT_end {B : Nat → Int} {T : Nat → Nat → Bool} {n : Nat} : growT B T n n 0 = (List.range n).map fun a => orMask (B a) (T a) n := by
  unfold growT
  apply List.map_congr_left
  intro a ha
  rw [List.mem_range] at ha
  simp [ha]
/-- The text's changes: one place more, or none. -/
theorem growT_yes {B : Nat → Int} {T : Nat → Nat → Bool} {n k j : Nat} (h : k < n) (ht : T k j = true) : (growT B T n k j).set k (ibits .or .i64 (nth (growT B T n k j) k) (pow1 j)) = growT B T n k (j + 1) := by
  rw [growT_nth h, ← growT_set, orMask, if_pos ht]
theorem growT_no {B : Nat → Int} {T : Nat → Nat → Bool} {n k j : Nat} (h : k < n) (ht : T k j = false) : growT B T n k j = growT B T n k (j + 1) := by
  have e : orMask (B k) (T k) (j + 1) = nth (growT B T n k j) k := by rw [growT_nth h, orMask, ht]; rfl
  rw [← growT_set, e, set_nthG]
/-- Whether two sets of places meet. -/
def meets (p q : Int) : Bool := ibits .and .i64 p q != 0
def depP (pl : List Int) : List Int := (List.range pl.length).map fun a => orMask 0 (fun b => meets (nth pl a) (nth pl b)) pl.length
/-- Valid places. -/
structure PlOk (n : Int) (pl : List Int) : Prop where
  ok : arePl n pl = true
theorem pl_len {n : Int} {pl : List Int} (h : arePl n pl = true) : pl.length ≤ 8 ∧ 1 ≤ n ∧ n ≤ 4 := by
  unfold arePl at h
  simp only [Bool.and_eq_true, decide_eq_true_eq] at h
  omega
theorem pl_mask {n : Int} {pl : List Int} (h : arePl n pl = true) : ∀ a, a < pl.length → M (nth pl a) ∧ 1 ≤ nth pl a ∧ ∀ i : Nat, n ≤ i → tb (nth pl a) i = false := by
  intro a ha
  obtain ⟨h1, h2, h3⟩ := pl_len h
  obtain ⟨m, rfl⟩ := Int.eq_ofNat_of_zero_le (show 0 ≤ n by omega)
  unfold arePl at h
  simp only [Bool.and_eq_true, List.all_eq_true, decide_eq_true_eq] at h
  obtain ⟨k1, k2⟩ := h.2 _ (nth_mem ha)
  exact ⟨full_M (n := m) (by omega) (by omega) k2, k1, fun i hi => tb_of_le (n := m) (by omega) (by omega) k2 (by omega)⟩
theorem meets_self {n : Int} {pl : List Int} (h : arePl n pl = true) {a : Nat} (ha : a < pl.length) : meets (nth pl a) (nth pl a) = true := by
  obtain ⟨m1, m2, _⟩ := pl_mask h a ha
  unfold meets
  simp only [bne_iff_ne, ne_eq]
  intro e
  rw [eq_zero_iff (M_and m1 m1)] at e
  have : nth pl a = 0 := by
    rw [eq_zero_iff m1]
    intro i
    have := e i
    rw [tb_and m1 m1] at this
    simpa using this
  omega
theorem depP_length (pl : List Int) : (depP pl).length = pl.length := by simp [depP]
theorem depP_nth {pl : List Int} {a : Nat} (h : a < pl.length) : nth (depP pl) a = orMask 0 (fun b => meets (nth pl a) (nth pl b)) pl.length := by
  rw [nth_at (by rw [depP_length]; exact h)]; simp [depP]
theorem depP_ok {pl : List Int} (h : pl.length ≤ 8) : TOk (depP pl) := by
  refine ⟨by rw [depP_length]; omega, fun a ha => ?_⟩
  rw [depP_length] at ha
  rw [depP_nth ha]; exact M_orMask _ M_zero _ (by omega)
theorem depP_tb {pl : List Int} (h : pl.length ≤ 8) {a b : Nat} (ha : a < pl.length) (hb : b < pl.length) : tb (nth (depP pl) a) b = meets (nth pl a) (nth pl b) := by
  rw [depP_nth ha, tb_orMask _ M_zero _ _ (by omega)]; simp [hb]
theorem ties_spec (a0 : Bool) (x : AlphaV) : ACalls1 Tryz.prog 73 [alphaSl a0 x] (.sl 1 a0 (ints x.depends)) := by
  refine walk (fun t => t == 1) mixed Go.Proofs.Tryz.func73 rfl rfl rfl (by kernel_rfl) rfl (by simp) (by kernel_rfl) ?_
  simp
/-- Edges of the order of the positions of a word. -/
def edgB (t : List Int) (u : List Nat) (i k : Nat) : Bool := decide (i < k) && tb (nth t (natAt u i)) (natAt u k)
def edgR (t : List Int) (u : List Nat) : List Int := (List.range u.length).map fun i => orMask 0 (edgB t u i) u.length
/-- One step of the closure. -/
def stepW (k : Nat) (out : List Int) (i : Nat) : List Int := if tb (nth out i) k then out.set i (ibits .or .i64 (nth out i) (nth out k)) else out
def passW (n : Nat) (out : List Int) (k : Nat) : List Int := (List.range n).foldl (stepW k) out
def reflR (r : List Int) : List Int := (List.range r.length).map fun i => ibits .or .i64 (nth r i) (pow1 i)
def clo (r : List Int) : List Int := (List.range r.length).foldl (passW r.length) (reflR r)
theorem stepW_length (k i : Nat) (out : List Int) : (stepW k out i).length = out.length := by unfold stepW; split <;> simp
theorem foldW_length (k : Nat) : ∀ (l : List Nat) (out : List Int), (l.foldl (stepW k) out).length = out.length
  | [], _ => rfl
  | i :: l, out => by rw [List.foldl_cons, foldW_length k l, stepW_length]
theorem passW_length (n k : Nat) (out : List Int) : (passW n out k).length = out.length := foldW_length _ _ _
theorem foldP_length (n : Nat) : ∀ (l : List Nat) (out : List Int), (l.foldl (passW n) out).length = out.length
  | [], _ => rfl
  | i :: l, out => by rw [List.foldl_cons, foldP_length n l, passW_length]
theorem reflR_length (r : List Int) : (reflR r).length = r.length := by simp [reflR]
theorem clo_length (r : List Int) : (clo r).length = r.length := by unfold clo; rw [foldP_length, reflR_length]
/-- All are masks. -/
def AllM (l : List Int) : Prop := ∀ i, i < l.length → M (nth l i)
theorem AllM_set {l : List Int} (h : AllM l) {k : Nat} {y : Int} (hy : M y) : AllM (l.set k y) := by
  intro i hi
  rw [List.length_set] at hi
  by_cases hk : k < l.length
  · rw [nth_set y hk i hi]
    split
    · exact hy
    · exact h i hi
  · rw [List.set_eq_of_length_le (by omega)]; exact h i hi
theorem stepW_M {k i : Nat} {out : List Int} (h : AllM out) (hk : k < out.length) (hi : i < out.length) : AllM (stepW k out i) := by
  unfold stepW; split
  · exact AllM_set h (M_or (h i hi) (h k hk))
  · exact h
theorem foldW_M {k : Nat} : ∀ (l : List Nat) {out : List Int}, AllM out → k < out.length → (∀ i ∈ l, i < out.length) → AllM (l.foldl (stepW k) out)
  | [], _, h, _, _ => h
  | i :: l, out, h, hk, hl => foldW_M l (stepW_M h hk (hl i (by simp))) (by rw [stepW_length]; exact hk) (fun j hj => by rw [stepW_length]; exact hl j (by simp [hj]))
theorem foldP_M {n : Nat} : ∀ (l : List Nat) {out : List Int}, AllM out → out.length = n → (∀ k ∈ l, k < n) → AllM (l.foldl (passW n) out)
  | [], _, h, _, _ => h
  | k :: l, out, h, hn, hl => foldP_M l (foldW_M _ h (by rw [hn]; exact hl k (by simp)) (fun i hi => by rw [hn]; exact List.mem_range.1 hi)) (by rw [passW_length]; exact hn) (fun j hj => hl j (by simp [hj]))
theorem range_foldl_succ {β : Type} (f : β → Nat → β) (b : β) (k : Nat) : (List.range (k + 1)).foldl f b = f ((List.range k).foldl f b) k := by
  rw [List.range_succ, List.foldl_append]; rfl
theorem reflR_M {r : List Int} (h : AllM r) (h24 : r.length ≤ 24) : AllM (reflR r) := by
  intro i hi
  rw [reflR_length] at hi
  rw [nth_at (by rw [reflR_length]; exact hi)]
  simp only [reflR, List.getElem_map, List.getElem_range]
  exact M_or (h i hi) (M_pow1 (by omega))
/-- The first rows with their own places. -/
def reflK (r : List Int) (k : Nat) : List Int := (reflR r).take k ++ r.drop k
theorem reflK_length (r : List Int) (k : Nat) (hk : k ≤ r.length) : (reflK r k).length = r.length := by
  unfold reflK
  rw [List.length_append, List.length_take, List.length_drop, reflR_length]; omega
theorem reflK_nth {r : List Int} {k : Nat} (h : k < r.length) : nth (reflK r k) k = nth r k := by
  rw [nth_at (by rw [reflK_length _ _ (by omega)]; exact h), nth_at h]
  simp only [reflK]
  rw [List.getElem_append_right (by rw [List.length_take, reflR_length]; omega)]
  simp [reflR_length, show min k r.length = k by omega]
theorem reflK_set {r : List Int} {k : Nat} (h : k < r.length) : (reflK r k).set k (ibits .or .i64 (nth r k) (pow1 k)) = reflK r (k + 1) := by
  apply List.ext_getElem
  · rw [List.length_set, reflK_length _ _ (by omega), reflK_length _ _ (by omega)]
  · intro i h1 h2
    rw [List.length_set, reflK_length _ _ (by omega)] at h1
    rw [List.getElem_set]
    have hl := reflR_length r
    by_cases e : k = i
    · subst e
      simp only [if_true, reflK]
      rw [List.getElem_append_left (by rw [List.length_take]; omega)]
      simp [reflR]
    · simp only [e, if_false, reflK]
      by_cases e2 : i < k
      · rw [List.getElem_append_left (by rw [List.length_take]; omega), List.getElem_append_left (by rw [List.length_take]; omega)]
        simp
      · rw [List.getElem_append_right (by rw [List.length_take]; omega), List.getElem_append_right (by rw [List.length_take]; omega)]
        simp [hl, show min k r.length = k by omega, show min (k + 1) r.length = k + 1 by omega]
        congr 1; omega
theorem closure_spec (nn : Bool) (r : List Int) (h : AllM r) (h24 : r.length ≤ 24) : ACalls1 Tryz.prog 222 [.sl 1 nn (ints r)] (.own 1 false (ints (clo r))) := by
  have hrl := reflR_length r
  refine walk (fun _ => false) mixed Go.Proofs.Tryz.func222 rfl rfl rfl (by kernel_rfl) rfl (by simp) (by kernel_rfl) ?_
  simp
  refine ⟨_, Clone_spec _ _ (by unfold Fits; omega), ?_⟩
  simp
  refine awp_loop2 [10] [] (fun k : Nat => [(11, iv k), (3, .ref 100)]) (fun k => [(100, .own 1 false (ints (reflK r k)))]) (fun k => k ≤ r.length) (fun k => r.length - k) 0 (weak_mk (fun t => if t = 100 then some 8 else some t) (by simp) (by simp [reflK]) rfl) (by simp) ?_
  intro k hk
  by_cases hlt : k < r.length
  · have hl := reflK_length r k hk
    have hn := reflK_nth hlt
    have hs := reflK_set hlt
    rw [← hn] at hs
    generalize reflK r k = q at *
    simp [hlt, hl, show k + 1 ≤ r.length from hlt]
    repeat (rw [exE_eq]; simp [hlt, hl, show k + 1 ≤ r.length from hlt])
    refine ⟨_, one_spec k (by omega), ?_⟩
    simp [hlt, hl, show k + 1 ≤ r.length from hlt, ints_put, wrap_id ((k : Int) + 1) (by omega) (by omega)]
    repeat (rw [exE_eq]; simp [hlt, hl, show k + 1 ≤ r.length from hlt, ints_put, wrap_id ((k : Int) + 1) (by omega) (by omega)])
    first | refine ⟨⟨by kernel_rfl, by kernel_rfl⟩, ?_⟩ | exact ⟨by kernel_rfl, by kernel_rfl⟩
    exact Round.mk (k + 1) (weak_mk some (by simp) (by simp [hs]) rfl) hlt (by omega)
  · obtain rfl : k = r.length := by omega
    have e0 : reflK r r.length = reflR r := by
      unfold reflK; rw [List.take_of_length_le (by omega), List.drop_length, List.append_nil]
    rw [e0]
    simp [hrl]
    refine awp_loop2 [3, 24] [] (fun k : Nat => [(25, iv k)]) (fun k => [(100, .own 1 false (ints ((List.range k).foldl (passW r.length) (reflR r))))]) (fun k => k ≤ r.length) (fun k => r.length - k) 0 (weak_mk some (by simp) (by simp) rfl) (by simp) ?_
    intro k hk
    have hPl := foldP_length r.length (List.range k) (reflR r)
    rw [hrl] at hPl
    have hPM := foldP_M (n := r.length) (List.range k) (reflR_M h h24) hrl (fun j hj => by rw [List.mem_range] at hj; omega)
    have hPs := range_foldl_succ (passW r.length) (reflR r) k
    by_cases hlt : k < r.length
    · generalize (List.range k).foldl (passW r.length) (reflR r) = out at *
      simp [hlt, hPl]
      refine awp_loop2 [3, 5, 24, 25, 29] [] (fun i : Nat => [(30, iv i)]) (fun i => [(100, .own 1 false (ints ((List.range i).foldl (stepW k) out)))]) (fun i => i ≤ r.length) (fun i => r.length - i) 0 (weak_mk some (by simp) (by simp) rfl) (by simp) ?_
      intro i hi
      have hWl := foldW_length k (List.range i) out
      rw [hPl] at hWl
      have hWM := foldW_M (k := k) (List.range i) hPM (by omega) (fun j hj => by rw [List.mem_range] at hj; omega)
      have hWs := range_foldl_succ (stepW k) out i
      by_cases hil : i < r.length
      · generalize (List.range i).foldl (stepW k) out = o at *
        have hoi := hWM i (by omega)
        simp [hil, hWl, show i + 1 ≤ r.length from hil]
        refine ⟨_, has_spec _ hoi k (by omega), ?_⟩
        cases hb : tb (nth o i) k
        · have hst : stepW k o i = o := by simp [stepW, hb]
          simp [wrap_id ((i : Int) + 1) (by omega) (by omega)]
          exact Round.mk (i + 1) (weak_mk some (by simp) (by simp [hWs, hst]) rfl) hil (by omega)
        · have hst : stepW k o i = o.set i (ibits .or .i64 (nth o i) (nth o k)) := by simp [stepW, hb]
          simp [hil, hlt, hWl, show i + 1 ≤ r.length from hil, show k + 1 ≤ r.length from hlt, ints_put, wrap_id ((i : Int) + 1) (by omega) (by omega)]
          repeat (rw [exE_eq]; simp [hil, hlt, hWl, show i + 1 ≤ r.length from hil, show k + 1 ≤ r.length from hlt, ints_put, wrap_id ((i : Int) + 1) (by omega) (by omega)])
          repeat (refine And.intro (by first | omega | exact ⟨by kernel_rfl, by kernel_rfl⟩) ?_)
          exact Round.mk (i + 1) (weak_mk some (by simp) (by simp [hWs, hst]) rfl) hil (by omega)
      · obtain rfl : i = r.length := by omega
        have e1 : (List.range r.length).foldl (stepW k) out = passW r.length out k := rfl
        rw [e1, ← hPs]
        simp [wrap_id ((k : Int) + 1) (by omega) (by omega)]
        exact Round.mk (k + 1) (weak_mk some (by simp) (by simp) rfl) hlt (by omega)
    · obtain rfl : k = r.length := by omega
      simp [clo]
theorem orderOf_spec (n1 n2 : Bool) (t : List Int) (ht : TOk t) (u : List Nat) (hu : ∀ a ∈ u, a < t.length) (h24 : u.length ≤ 24) : ACalls1 Tryz.prog 202 [.sl 1 n1 (ints t), .sl 1 n2 (ints (nats u))] (.own 1 false (ints (clo (edgR t u)))) := by
  have hend : growT (fun _ => 0) (edgB t u) u.length u.length 0 = edgR t u := growT_end
  have hlen := ht.1
  refine walk (fun _ => false) mixed Go.Proofs.Tryz.func202 rfl rfl rfl (by kernel_rfl) rfl (by simp) (by kernel_rfl) ?_
  simp
  repeat (refine And.intro (by omega) ?_)
  have hst : List.replicate u.length (0 : Int) = growT (fun _ => 0) (edgB t u) u.length 0 0 := by
    rw [growT_start]
    apply List.ext_getElem
    · simp
    · intro i h1 h2; simp
  rw [hst]
  refine awp_loop2 [0, 1, 12, 13] [] (fun k : Nat => [(14, iv k), (5, .ref 100)]) (fun k => [(100, .own 1 true (ints (growT (fun _ => 0) (edgB t u) u.length k 0)))]) (fun k => k ≤ u.length) (fun k => u.length - k) 0 (weak_mk (fun t => if t = 100 then some 11 else some t) (by simp) (by simp) rfl) (by simp) ?_
  intro i hi
  by_cases hil : i < u.length
  · have ha := hu _ (natAt_mem hil)
    have hni := nats_nth hil
    have e0 : growT (fun _ => 0) (edgB t u) u.length i 0 = growT (fun _ => 0) (edgB t u) u.length i (i + 1) := by
      have key : ∀ j, j ≤ i + 1 → growT (fun _ => 0) (edgB t u) u.length i 0 = growT (fun _ => 0) (edgB t u) u.length i j := by
        intro j
        induction j with
        | zero => intro _; rfl
        | succ j ih =>
          intro hj
          rw [ih (by omega)]
          exact growT_no hil (by simp [edgB]; omega)
      exact key (i + 1) (Nat.le_refl _)
    rw [e0]
    simp [hil, hni, wrap_id ((i : Int) + 1) (by omega) (by omega)]
    refine awp_loop2 [0, 1, 5, 6, 7, 12, 13, 14] [] (fun k : Nat => [(8, iv k)]) (fun k => [(100, .own 1 true (ints (growT (fun _ => 0) (edgB t u) u.length i k)))]) (fun k => i < k ∧ k ≤ u.length) (fun k => u.length - k) (i + 1) (weak_mk some (by simp) (by simp) rfl) (by omega) ?_
    rintro k ⟨hik, hk⟩
    by_cases hkl : k < u.length
    · have hb := hu _ (natAt_mem hkl)
      have hnk := nats_nth hkl
      have gl := growT_length (fun _ => 0) (edgB t u) u.length i k
      have gy := growT_yes (B := fun _ => 0) (T := edgB t u) (n := u.length) (k := i) (j := k) hil
      have gn := growT_no (B := fun _ => 0) (T := edgB t u) (n := u.length) (k := i) (j := k) hil
      have hE : edgB t u i k = tb (nth t (natAt u i)) (natAt u k) := by simp [edgB, hik]
      rw [hE] at gy gn
      generalize growT (fun _ => 0) (edgB t u) u.length i k = g at *
      simp [hkl, hnk, ha]
      repeat (rw [exE_eq]; simp [hkl, hnk, ha])
      refine ⟨_, has_spec _ (ht.2 _ ha) (natAt u k) (by omega), ?_⟩
      cases hm : tb (nth t (natAt u i)) (natAt u k)
      · rw [hm] at gn
        have gn' := gn rfl
        simp [wrap_id ((k : Int) + 1) (by omega) (by omega)]
        exact Round.mk (k + 1) (weak_mk some (by simp) (by simp [← gn']) rfl) (by omega) (by omega)
      · rw [hm] at gy
        have gy' := gy rfl
        simp [hil, gl, show i + 1 ≤ u.length from hil]
        repeat (rw [exE_eq]; simp [hil, gl, show i + 1 ≤ u.length from hil])
        refine ⟨_, one_spec k (by omega), ?_⟩
        simp [hil, gl, show i + 1 ≤ u.length from hil, ints_put, wrap_id ((k : Int) + 1) (by omega) (by omega)]
        repeat (rw [exE_eq]; simp [hil, gl, show i + 1 ≤ u.length from hil, ints_put, wrap_id ((k : Int) + 1) (by omega) (by omega)])
        first | refine ⟨⟨by kernel_rfl, by kernel_rfl⟩, ?_⟩ | exact ⟨by kernel_rfl, by kernel_rfl⟩
        exact Round.mk (k + 1) (weak_mk some (by simp) (by simp [gy']) rfl) (by omega) (by omega)
    · obtain rfl : k = u.length := by omega
      simp [wrap_id ((i : Int) + 1) (by omega) (by omega)]
      exact Round.mk (i + 1) (weak_mk some (by simp) (by simp [← growT_next]) rfl) hil (by omega)
  · obtain rfl : i = u.length := by omega
    rw [hend]
    simp
    have hel : (edgR t u).length = u.length := by simp [edgR]
    refine ⟨_, closure_spec _ (edgR t u) (fun i hi => ?_) (by omega), ?_⟩
    · rw [nth_at hi]
      simp only [edgR, List.getElem_map]
      exact M_orMask _ M_zero _ (by omega)
    · simp
end Go.AM
