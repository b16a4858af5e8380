/-
  Several texts in one: FnUe FnUo FnUf FnUg.
-/
import Derived.Test.YthabclhldlikfaaGreatDoorFnDr
import Derived.Test.YthabclhldlikfaaGreatDoorFnN
import Derived.Test.YthabclhldlikfaaGreatDoorFnMgE
import Derived.Test.YthabclhldlikfaaGreatDoorFnMgT
import Derived.Test.YthabclhldlikfaaGreatDoorAmWk
set_option linter.unusedVariables false
set_option linter.unusedSimpArgs false
set_option linter.unusedSectionVars false
set_option maxRecDepth 100000
set_option maxHeartbeats 1600000
namespace Go.AM
open Go.Proofs
/-- An alphabet without ties. -/
def freeA (n : Nat) : AlphaV := ⟨n, (List.range n).map fun (a : Nat) => pow1 a⟩
/-- Two letters tied. -/
def joinA (x : AlphaV) (a b : Nat) : AlphaV := ⟨x.letters, (x.depends.set a (ibits .or .i64 (nth x.depends a) (pow1 b))).set b (ibits .or .i64 (nth (x.depends.set a (ibits .or .i64 (nth x.depends a) (pow1 b))) b) (pow1 a))⟩
theorem isAlphaV_iff {x : AlphaV} (h8 : x.depends.length ≤ 8) (hl : x.letters = x.depends.length) : isAlphaV x = true ↔ (∀ i, i < x.depends.length → isM x.depends.length (nth x.depends i) = true) ∧ (∀ a, a < x.depends.length → tb (nth x.depends a) a = true) ∧ ∀ a b, a < x.depends.length → b < x.depends.length → tb (nth x.depends a) b = tb (nth x.depends b) a := by
  unfold isAlphaV
  rw [hl]
  simp only [Bool.and_eq_true, decide_eq_true_eq, List.all_eq_true, List.mem_range]
  constructor
  · rintro ⟨⟨_, h2⟩, h3⟩
    refine ⟨fun i hi => h2 _ (nth_mem hi), fun a ha => ?_, fun a b ha hb => ?_⟩
    · have := h3 a ha
      simp only [alphaRow, Bool.and_eq_true] at this
      exact this.1
    · have := h3 a ha
      simp only [alphaRow, Bool.and_eq_true, List.all_eq_true, beq_iff_eq, List.mem_range] at this
      exact this.2 b hb
  · rintro ⟨h1, h2, h3⟩
    refine ⟨⟨⟨⟨by omega, by omega⟩, trivial⟩, fun y hy => ?_⟩, fun a ha => ?_⟩
    · obtain ⟨i, hi, rfl⟩ := List.mem_iff_getElem.1 hy
      rw [← nth_at hi]; exact h1 i hi
    simp only [alphaRow, Bool.and_eq_true, List.all_eq_true, beq_iff_eq, List.mem_range]
    exact ⟨h2 a ha, fun b hb => h3 a b ha hb⟩
theorem freeA_nth {n a : Nat} (h : a < n) : nth (freeA n).depends a = pow1 a := by
  rw [nth_at (by simpa [freeA] using h)]; simp [freeA]
theorem freeA_ok {n : Nat} (h : n ≤ 8) : isAlphaV (freeA n) = true := by
  have hl : (freeA n).depends.length = n := by simp [freeA]
  rw [isAlphaV_iff (by omega) (by rw [hl]; rfl), hl]
  refine ⟨fun i hi => ?_, fun a ha => ?_, fun a b ha hb => ?_⟩
  · rw [freeA_nth hi]
    exact isM_of (by omega) (M_pow1 (by omega)) fun j hj => by rw [tb_pow1 (by omega)]; simp; omega
  · rw [freeA_nth ha, tb_pow1 (by omega)]; simp
  · rw [freeA_nth ha, freeA_nth hb, tb_pow1 (by omega), tb_pow1 (by omega)]
    by_cases e : a = b
    · subst e; rfl
    · simp [e, show ¬ b = a from fun h => e h.symm]
theorem joinA_length (x : AlphaV) (a b : Nat) : (joinA x a b).depends.length = x.depends.length := by simp [joinA]
theorem joinA_tb {x : AlphaV} (h : isAlphaV x = true) {a b : Nat} (ha : a < x.depends.length) (hb : b < x.depends.length) (hab : a ≠ b) {i : Nat} (hi : i < x.depends.length) (j : Nat) :
    M (nth (joinA x a b).depends i) ∧ tb (nth (joinA x a b).depends i) j = (tb (nth x.depends i) j || decide (i = a ∧ j = b) || decide (i = b ∧ j = a)) := by
  have hok := alOk_of h
  have h8 := hok.len
  have hM := fun i hi => (alOk_M hok (a := i) hi).1
  have e1 : nth (x.depends.set a (ibits .or .i64 (nth x.depends a) (pow1 b))) b = nth x.depends b := by
    rw [nth_at (by simpa using hb), nth_at hb, List.getElem_set, if_neg hab]
  have e2 : nth (joinA x a b).depends i = if i = b then ibits .or .i64 (nth x.depends b) (pow1 a) else if i = a then ibits .or .i64 (nth x.depends a) (pow1 b) else nth x.depends i := by
    unfold joinA
    simp only
    rw [e1, nth_at (by simpa using hi), List.getElem_set]
    by_cases h1 : b = i
    · subst h1; simp
    · rw [if_neg h1, if_neg (fun h => h1 h.symm), List.getElem_set]
      by_cases h2 : a = i
      · subst h2; simp
      · rw [if_neg h2, if_neg (fun h => h2 h.symm), nth_at hi]
  rw [e2]
  by_cases h1 : i = b
  · subst h1
    rw [if_pos rfl]
    refine ⟨M_or (hM _ hb) (M_pow1 (by omega)), ?_⟩
    rw [tb_or (hM _ hb) (M_pow1 (by omega)), tb_pow1 (by omega)]
    have : ¬ i = a := fun h => hab h.symm
    by_cases e : j = a
    · subst e; simp
    · simp [this, e, show ¬ a = j from fun h => e h.symm]
  · rw [if_neg h1]
    by_cases h2 : i = a
    · subst h2
      rw [if_pos rfl]
      refine ⟨M_or (hM _ ha) (M_pow1 (by omega)), ?_⟩
      rw [tb_or (hM _ ha) (M_pow1 (by omega)), tb_pow1 (by omega)]
      by_cases e : j = b
      · subst e; simp
      · simp [h1, e, show ¬ b = j from fun h => e h.symm]
    · rw [if_neg h2]
      exact ⟨hM _ hi, by simp [h1, h2]⟩
theorem joinA_ok {x : AlphaV} (h : isAlphaV x = true) {a b : Nat} (ha : a < x.depends.length) (hb : b < x.depends.length) (hab : a ≠ b) : isAlphaV (joinA x a b) = true := by
  have hok := alOk_of h
  have h8 := hok.len
  have hl := joinA_length x a b
  obtain ⟨f1, f2, f3⟩ := (isAlphaV_iff h8 hok.let_).1 h
  rw [isAlphaV_iff (by omega) (by rw [hl]; exact hok.let_), hl]
  refine ⟨fun i hi => ?_, fun i hi => ?_, fun i j hi hj => ?_⟩
  · refine isM_of (by omega) (joinA_tb h ha hb hab hi 0).1 fun j hj => ?_
    rw [(joinA_tb h ha hb hab hi j).2, (alOk_M hok hi).2 j hj]
    simp; omega
  · rw [(joinA_tb h ha hb hab hi i).2, f2 i hi]; simp
  · rw [(joinA_tb h ha hb hab hi j).2, (joinA_tb h ha hb hab hj i).2, f3 i j hi hj]
    by_cases e1 : i = a <;> by_cases e2 : j = b <;> by_cases e3 : i = b <;> by_cases e4 : j = a <;> simp [e1, e2, e3, e4]
theorem l02Free_spec (n : Nat) (hn : n ≤ 8) : ACalls1 Tryz.prog 208 [iv n] (alphaOw true (freeA n)) := by
  refine walk (fun _ => false) mixed Go.Proofs.Tryz.func208 rfl rfl rfl (by kernel_rfl) rfl (by simp) (by kernel_rfl) ?_
  simp
  refine awp_loop2 [0, 2, 3] [2] (fun a : Nat => [(4, iv a)]) (fun a => [(3, .box [iv n, .ref 200]), (200, .own 1 true (ints ((List.range a).map fun (a : Nat) => pow1 a)))]) (fun a => a ≤ n) (fun a => n - a) 0 (weak_mk (fun t => if t = 200 then some 6 else some t) (by simp) (by simp) rfl) (by simp) ?_
  intro a ha
  by_cases hlt : a < n
  · simp [hlt]
    refine ⟨_, l01One_spec a (by unfold I64; omega), ?_⟩
    simp
    repeat (refine And.intro (by first | omega | exact ⟨by kernel_rfl, by kernel_rfl⟩) ?_)
    rw [wrap_id ((a : Int) + 1) (by omega) (by omega)]
    exact Round.mk (a + 1) (weak_mk (fun t => if t = 200 then some 18 else some t) (by simp) (by simp [List.range_succ]) rfl) hlt (by omega)
  · obtain rfl : a = n := by omega
    simp [freeA]
theorem l02Join_spec (d : Bool) (x : AlphaV) (h8 : x.depends.length ≤ 8) (a b : Nat) (ha : a < x.depends.length) (hb : b < x.depends.length) : ACalls2 Tryz.prog 209 [alphaOw d x, iv a, iv b] [alphaOw d (joinA x a b), iv a, iv b] (.tup []) := by
  refine walkO (fun _ => false) mixed Go.Proofs.Tryz.func209 rfl rfl rfl (by kernel_rfl) (by simp) (by simp) (by simp) (by kernel_rfl) ?_
  simp [ha, hb]
  refine ⟨by omega, _, l01One_spec b (by unfold I64; omega), ?_⟩
  simp [ha, hb, ints_put]
  repeat (refine And.intro (by first | omega | exact ⟨by kernel_rfl, by kernel_rfl⟩) ?_)
  try simp [ha, hb, ints_put]
  refine ⟨_, l01One_spec a (by unfold I64; omega), ?_⟩
  simp [ha, hb, ints_put]
  repeat (refine And.intro (by first | omega | exact ⟨by kernel_rfl, by kernel_rfl⟩) ?_)
  try simp [ha, hb, ints_put]
  exact ⟨rfl, rfl⟩
theorem l01Pick_spec (nn d : Bool) (l : List Int) (s : Src) (hs : SrcOk l s) (ls : List Int) (hl : 0 < ls.length) (hl2 : ls.length ≤ 100) : ACalls Tryz.prog 136 [srcA nn l s, .own 1 d (ints ls)]
    (fun xs r => ∃ s' k, SrcOk l s' ∧ k < ls.length ∧ xs = [srcA nn l s', .own 1 d (ints ls)] ∧ r = iv (nth ls k)) := by
  refine walkR (fun t => t == 2009) mixed Go.Proofs.Tryz.func136 rfl rfl rfl (by kernel_rfl) (by simp) (by simp) (by simp) (by kernel_rfl) ?_
  simp
  refine ⟨_, _, l01Next_spec nn l s hs ls.length (by unfold I64; omega), ?_⟩
  have hs1 := nxS_ok hs (ls.length : Int)
  have ha1 := nxN_rng hs (ls.length : Int)
  generalize nxS l s (ls.length : Int) = s1 at *
  generalize nxN l s (ls.length : Int) = k at *
  obtain ⟨k, rfl⟩ := Int.eq_ofNat_of_zero_le ha1.1
  have hk : k < ls.length := by omega
  simp [hk]
  exact ⟨by omega, _, .refl _, s1, hs1, k, hk, ⟨rfl, rfl⟩, rfl⟩
/-- An alphabet as it is drawn. -/
def AlSm (x : AlphaV) : Prop := isAlphaV x = true ∧ x.depends.length ≤ 4
theorem l02Draw_spec (nn : Bool) (l : List Int) (s : Src) (hs : SrcOk l s) : ACalls Tryz.prog 156 [srcA nn l s, iv 4]
    (fun xs r => ∃ s' x, SrcOk l s' ∧ AlSm x ∧ xs = [srcA nn l s', iv 4] ∧ r = alphaOw true x) := by
  refine walkR (fun t => t == 2014 || t == 2022 || t == 2028 || t == 7033 || t == 2046 || t == 2051) mixed Go.Proofs.Tryz.func156 rfl rfl rfl (by kernel_rfl) (by simp) (by simp) (by simp) (by kernel_rfl) ?_
  simp
  refine ⟨_, _, l01Next_spec nn l s hs 6 (by unfold I64; omega), ?_⟩
  have hs1 := nxS_ok hs 6
  generalize nxS l s 6 = s1 at *
  generalize nxN l s 6 = r1 at *
  simp
  refine ⟨fun h0 => ?_, fun h0 => ?_⟩
  · refine ⟨_, .refl _, s1, hs1, ⟨4, [11, 7, 14, 13]⟩, ⟨by decide, by simp⟩, ⟨rfl, rfl⟩, rfl⟩
  · have hw5 : IntKind.i64.wrap 5 = 5 := by decide
    simp [hw5]
    refine ⟨_, _, l01Next_spec nn l s1 hs1 5 (by unfold I64; omega), ?_⟩
    have hs2 := nxS_ok hs1 5
    have ha2 := nxN_rng hs1 5
    generalize nxS l s1 5 = s2 at *
    generalize nxN l s1 5 = r2 at *
    simp
    refine ⟨fun h2 => ?_, fun h2 => ?_⟩
    · refine ⟨_, _, l01Next_spec nn l s2 hs2 5 (by unfold I64; omega), ?_⟩
      have hq := nxS_ok hs2 5
      have ha3 := nxN_rng hs2 5
      generalize nxS l s2 5 = q at *
      generalize nxN l s2 5 = r3 at *
      obtain ⟨n, rfl⟩ := Int.eq_ofNat_of_zero_le ha3.1
      have hn4 : n ≤ 4 := by omega
      simp
      refine ⟨_, l02Free_spec n (by omega), ?_⟩
      simp
      refine ⟨_, l01Pick_spec nn true l q hq [2, 2, 3, 4] (by simp) (by simp), ?_⟩
      rintro _ _ ⟨q1, k, hq1, hk, rfl, rfl⟩
      have hpart : I64 (nth [2, 2, 3, 4] k) := by
        have : k = 0 ∨ k = 1 ∨ k = 2 ∨ k = 3 := by simp at hk; omega
        rcases this with rfl | rfl | rfl | rfl <;> (unfold I64; decide)
      generalize nth [2, 2, 3, 4] k = part at *
      have hF := freeA_ok (n := n) (by omega)
      have hFl : (freeA n).depends.length = n := by simp [freeA]
      have hFe : (freeA n).letters = n := rfl
      generalize freeA n = F at *
      simp
      refine awp_loop2 [0, 4, 5, 7] [4] (fun z : Src × Nat × AlphaV => [(8, iv z.2.1), (6, .pt 6 0)]) (fun z => [(1000000000, srcA nn l z.1), (6, .box [iv n, .ref 200]), (200, .own 1 true (ints z.2.2.depends))])
        (fun z => SrcOk l z.1 ∧ z.2.1 ≤ n ∧ isAlphaV z.2.2 = true ∧ z.2.2.depends.length = n) (fun z => n - z.2.1) (q1, 0, F) (weak_mk (fun t => if t = 200 then some 31001 else some t) (by simp [hFe]) (by simp [hFe]) rfl) (by simp; exact ⟨hq1, hF, hFl⟩) ?_
      rintro ⟨q2, a, x⟩ ⟨hq2, ha, hx, hxl⟩
      simp only at hq2 ha hx hxl
      have hxe := (alOk_of hx).let_
      by_cases hla : a < n
      · simp [hla]
        refine awp_loop2 [0, 4, 5, 6, 7, 8] [4, 6] (fun z : Src × Nat × AlphaV => [(9, iv z.2.1)]) (fun z => [(1000000000, srcA nn l z.1), (200, .own 1 true (ints z.2.2.depends))])
          (fun z => SrcOk l z.1 ∧ z.2.1 ≤ a ∧ isAlphaV z.2.2 = true ∧ z.2.2.depends.length = n) (fun z => a - z.2.1) (q2, 0, x) (weak_mk some (by simp) (by simp) rfl) (by simp; exact ⟨hq2, hx, hxl⟩) ?_
        rintro ⟨q3, b, y⟩ ⟨hq3, hb, hy, hyl⟩
        simp only at hq3 hb hy hyl
        have hye := (alOk_of hy).let_
        by_cases hlb : b < a
        · simp [hlb]
          refine ⟨_, _, l01Next_spec nn l q3 hq3 part hpart, ?_⟩
          have hq4 := nxS_ok hq3 part
          generalize nxS l q3 part = q4 at *
          generalize nxN l q3 part = v at *
          have hwb : IntKind.i64.wrap ((b : Int) + 1) = ((b + 1 : Nat) : Int) := by rw [wrap_id _ (by omega) (by omega)]; omega
          simp
          refine ⟨fun hv => ?_, fun hv => ?_⟩
          · have hj := l02Join_spec true y (by omega) a b (by omega) (by omega)
            have hyn : y.letters = (n : Int) := by rw [hye, hyl]
            simp only [alphaOw, show (joinA y a b).letters = y.letters from rfl, hyn] at hj
            refine ⟨_, _, hj, ?_⟩
            simp [hwb]
            exact Round.mk (q4, b + 1, joinA y a b) (weak_mk some (by simp) (by simp) rfl) ⟨hq4, hlb, joinA_ok hy (by omega) (by omega) (by omega), by rw [joinA_length]; exact hyl⟩ (by simp only; omega)
          · simp [hwb]
            exact Round.mk (q4, b + 1, y) (weak_mk some (by simp) (by simp) rfl) ⟨hq4, hlb, hy, hyl⟩ (by simp only; omega)
        · obtain rfl : a = b := by omega
          simp
          rw [wrap_id ((a : Int) + 1) (by omega) (by omega)]
          exact Round.mk (q3, a + 1, y) (weak_mk some (by simp) (by simp) rfl) ⟨hq3, hla, hy, hyl⟩ (by simp only; omega)
      · obtain rfl : n = a := by omega
        simp
        refine ⟨_, .refl _, q2, hq2, x, ⟨hx, by omega⟩, ⟨rfl, rfl⟩, ?_⟩
        simp [alphaOw, hxe, hxl]
    · have hq := hs2
      obtain ⟨n, rfl⟩ := Int.eq_ofNat_of_zero_le ha2.1
      have hn4 : n ≤ 4 := by omega
      generalize s2 = q at *
      refine ⟨_, l02Free_spec n (by omega), ?_⟩
      simp
      refine ⟨_, l01Pick_spec nn true l q hq [2, 2, 3, 4] (by simp) (by simp), ?_⟩
      rintro _ _ ⟨q1, k, hq1, hk, rfl, rfl⟩
      have hpart : I64 (nth [2, 2, 3, 4] k) := by
        have : k = 0 ∨ k = 1 ∨ k = 2 ∨ k = 3 := by simp at hk; omega
        rcases this with rfl | rfl | rfl | rfl <;> (unfold I64; decide)
      generalize nth [2, 2, 3, 4] k = part at *
      have hF := freeA_ok (n := n) (by omega)
      have hFl : (freeA n).depends.length = n := by simp [freeA]
      have hFe : (freeA n).letters = n := rfl
      generalize freeA n = F at *
      simp
      refine awp_loop2 [0, 4, 5, 7] [4] (fun z : Src × Nat × AlphaV => [(8, iv z.2.1), (6, .pt 6 0)]) (fun z => [(1000000000, srcA nn l z.1), (6, .box [iv n, .ref 200]), (200, .own 1 true (ints z.2.2.depends))])
        (fun z => SrcOk l z.1 ∧ z.2.1 ≤ n ∧ isAlphaV z.2.2 = true ∧ z.2.2.depends.length = n) (fun z => n - z.2.1) (q1, 0, F) (weak_mk (fun t => if t = 200 then some 31001 else some t) (by simp [hFe]) (by simp [hFe]) rfl) (by simp; exact ⟨hq1, hF, hFl⟩) ?_
      rintro ⟨q2, a, x⟩ ⟨hq2, ha, hx, hxl⟩
      simp only at hq2 ha hx hxl
      have hxe := (alOk_of hx).let_
      by_cases hla : a < n
      · simp [hla]
        refine awp_loop2 [0, 4, 5, 6, 7, 8] [4, 6] (fun z : Src × Nat × AlphaV => [(9, iv z.2.1)]) (fun z => [(1000000000, srcA nn l z.1), (200, .own 1 true (ints z.2.2.depends))])
          (fun z => SrcOk l z.1 ∧ z.2.1 ≤ a ∧ isAlphaV z.2.2 = true ∧ z.2.2.depends.length = n) (fun z => a - z.2.1) (q2, 0, x) (weak_mk some (by simp) (by simp) rfl) (by simp; exact ⟨hq2, hx, hxl⟩) ?_
        rintro ⟨q3, b, y⟩ ⟨hq3, hb, hy, hyl⟩
        simp only at hq3 hb hy hyl
        have hye := (alOk_of hy).let_
        by_cases hlb : b < a
        · simp [hlb]
          refine ⟨_, _, l01Next_spec nn l q3 hq3 part hpart, ?_⟩
          have hq4 := nxS_ok hq3 part
          generalize nxS l q3 part = q4 at *
          generalize nxN l q3 part = v at *
          have hwb : IntKind.i64.wrap ((b : Int) + 1) = ((b + 1 : Nat) : Int) := by rw [wrap_id _ (by omega) (by omega)]; omega
          simp
          refine ⟨fun hv => ?_, fun hv => ?_⟩
          · have hj := l02Join_spec true y (by omega) a b (by omega) (by omega)
            have hyn : y.letters = (n : Int) := by rw [hye, hyl]
            simp only [alphaOw, show (joinA y a b).letters = y.letters from rfl, hyn] at hj
            refine ⟨_, _, hj, ?_⟩
            simp [hwb]
            exact Round.mk (q4, b + 1, joinA y a b) (weak_mk some (by simp) (by simp) rfl) ⟨hq4, hlb, joinA_ok hy (by omega) (by omega) (by omega), by rw [joinA_length]; exact hyl⟩ (by simp only; omega)
          · simp [hwb]
            exact Round.mk (q4, b + 1, y) (weak_mk some (by simp) (by simp) rfl) ⟨hq4, hlb, hy, hyl⟩ (by simp only; omega)
        · obtain rfl : a = b := by omega
          simp
          rw [wrap_id ((a : Int) + 1) (by omega) (by omega)]
          exact Round.mk (q3, a + 1, y) (weak_mk some (by simp) (by simp) rfl) ⟨hq3, hla, hy, hyl⟩ (by simp only; omega)
      · obtain rfl : n = a := by omega
        simp
        refine ⟨_, .refl _, q2, hq2, x, ⟨hx, by omega⟩, ⟨rfl, rfl⟩, ?_⟩
        simp [alphaOw, hxe, hxl]
theorem l12Put_own (d : Bool) (rs : List (List Int)) (hl : rs.length ≤ 1000000) (hr : ∀ r ∈ rs, Fits r) (w : List Int) (hw : Fits w) (hs : Strict rs) : ACalls2 Tryz.prog 60 [.sl 1 true (srows true rs), .own 1 d (ints w)] [.sl 1 true (srows true rs), .own 1 d (ints w)] (.sl 1 true (srows true (putS rs w))) := by
  by_cases hm : w ∈ rs
  · obtain ⟨j, hj, hje⟩ := List.mem_iff_getElem.1 hm
    rw [← nthR_at hj] at hje
    have hput : putS rs w = rs := by unfold putS; rw [if_pos hm]
    rw [hput]
    refine walkO (fun t => t == 1034 || t == 3035 || t == 5047) mixed Go.Proofs.Tryz.func60 rfl rfl rfl (by kernel_rfl) (by simp) (by simp) (by simp) (by kernel_rfl) ?_
    simp
    refine awp_loop2 [0, 1] [1000000001] (fun k : Nat => [(5, iv k)]) (fun _ => []) (fun k => k ≤ j) (fun k => j - k) 0 (weak_mk some (by simp) (by simp) rfl) (by simp) ?_
    intro k hk
    have hkl : k < rs.length := by omega
    simp [hkl]
    refine ⟨_, l12Before_spec _ _ _ _ (hr _ (nthR_mem hkl)) hw, ?_⟩
    by_cases hkj : k < j
    · have hlt : cmpW (nthR rs k) w < 0 := by rw [← hje]; exact strict_nthR hs hkj hj
      simp [hlt]
      rw [wrap_id ((k : Int) + 1) (by unfold Fits at *; omega) (by omega)]
      exact Round.mk (k + 1) (weak_mk some (by simp) (by simp) rfl) hkj (by omega)
    · obtain rfl : k = j := by omega
      have h0 : ¬ cmpW (nthR rs k) w < 0 := by rw [hje, cmpW_tot.self]; omega
      simp [h0, hkl]
      refine ⟨_, l01Same_spec _ _ _ _ (hr _ (nthR_mem hkl)) hw, ?_⟩
      simp [hje]
  · have hput : putS rs w = insR cmpW w rs := by unfold putS; rw [if_neg hm]
    rw [hput]
    refine walkO (fun t => t == 1034 || t == 3035 || t == 5047) mixed Go.Proofs.Tryz.func60 rfl rfl rfl (by kernel_rfl) (by simp) (by simp) (by simp) (by kernel_rfl) ?_
    simp
    refine awp_loop2 [0, 1] [1000000001] (fun k : Nat => [(5, iv k)]) (fun _ => []) (fun k => k ≤ rs.length ∧ ∀ i, i < k → cmpW (nthR rs i) w < 0) (fun k => rs.length - k) 0 (weak_mk some (by simp) (by simp) rfl) ⟨by simp, by simp⟩ ?_
    rintro k ⟨hk, hp⟩
    have stop : (k < rs.length → ¬ cmpW (nthR rs k) w < 0) → k = insRAt cmpW w rs := fun h => insRAt_eq hk hp h
    by_cases hkl : k < rs.length
    · simp [hkl]
      refine ⟨_, l12Before_spec _ _ _ _ (hr _ (nthR_mem hkl)) hw, ?_⟩
      by_cases hkn : cmpW (nthR rs k) w < 0
      · simp [hkn, wrap_id ((k : Int) + 1) (by omega) (by omega)]
        refine Round.mk (k + 1) (weak_mk some (by simp) (by simp) rfl) ⟨hkl, fun i hi => ?_⟩ (by omega)
        by_cases e : i = k
        · subst e; exact hkn
        · exact hp i (by omega)
      · have hat := stop (fun _ => hkn)
        have hne : ¬ nthR rs k = w := fun e => hm (e ▸ nthR_mem hkl)
        rw [insR_eq, ← hat]
        simp [hkl, hkn]
        refine ⟨_, l01Same_spec _ _ _ _ (hr _ (nthR_mem hkl)) hw, ?_⟩
        simp [hne]
        refine ⟨_, l01Own_spec _ w hw, ?_⟩
        have h2 : (rs.drop k).take (rs.length - k) = rs.drop k := List.take_of_length_le (by simp)
        have hmin : min k rs.length = k := by omega
        simp [srows_drop, srows_take, h2, hmin]
        repeat (refine And.intro (by first | omega | exact ⟨by kernel_rfl, by kernel_rfl⟩) ?_)
        rw [← srows_cons, ← srows_append, srows_view]
        exact .refl _
    · have hat := stop (fun h => absurd h hkl)
      obtain rfl : k = rs.length := by omega
      rw [insR_eq, ← hat]
      simp
      refine ⟨_, l01Own_spec _ w hw, ?_⟩
      simp [srows_drop, srows_take]
      first | refine ⟨⟨by kernel_rfl, by kernel_rfl⟩, ?_⟩ | exact ⟨by kernel_rfl, by kernel_rfl⟩
      omega
theorem l01Own2_spec (a b : Bool) (rs : List (List Int)) (hl : rs.length ≤ 1000000) (hr : ∀ r ∈ rs, Fits r) : ACalls1 Tryz.prog 251 [.sl 1 a (srows b rs)] (.own 1 true (srows true rs)) := by
  refine walk (fun t => t == 3015 || t == 3016 || t == 3017 || t == 1012 || t == 1013 || t == 1014 || t == 1015) mixed Go.Proofs.Tryz.func251 rfl rfl rfl (by kernel_rfl) rfl (by simp) (by kernel_rfl) ?_
  simp
  refine awp_loop2 [0] [] (fun k : Nat => [(4, iv k), (3, .ref 200)]) (fun k => [(200, .own 1 true (srows true (rs.take k)))]) (fun k => k ≤ rs.length) (fun k => rs.length - k) 0 (weak_mk (fun t => if t = 200 then some 5 else some t) (by simp) (by simp) rfl) (by simp) ?_
  intro k hk
  by_cases hlt : k < rs.length
  · have hst : rs.take (k + 1) = rs.take k ++ [nthR rs k] := by rw [List.take_succ_eq_append_getElem hlt, nthR_at hlt]
    simp [hlt]
    refine ⟨_, l01Own_spec _ _ (hr _ (nthR_mem hlt)), ?_⟩
    simp
    rw [wrap_id ((k : Int) + 1) (by omega) (by omega)]
    exact ⟨by omega, by omega, Round.mk (k + 1) (weak_mk (fun t => if t = 200 then some 19 else some t) (by simp) (by simp [hst]) rfl) hlt (by omega)⟩
  · obtain rfl : k = rs.length := by omega
    simp
/-- Two neighbours of a row change places. -/
def swapR (r : List Int) (k : Nat) : List Int := (r.set k (nth r (k + 1))).set (k + 1) (nth r k)
/-- One place of a row more. -/
def cloK (t : List Int) (r : List Int) (A : List (List Int)) (k : Nat) : List (List Int) :=
  if tb (nth t (nth r k).toNat) (nth r (k + 1)).toNat = true then A else if swapR r k ∈ A then A else A ++ [swapR r k]
def cloRow (t : List Int) (r : List Int) (A : List (List Int)) (n : Nat) : List (List Int) := (List.range n).foldl (cloK t r) A
def cloB (t : List Int) : Nat → Nat → List (List Int) → List (List Int)
  | 0, _, A => A
  | m + 1, i, A => if i < A.length ∧ A.length ≤ 200 then cloB t m (i + 1) (cloRow t (nthR A i) A ((nthR A i).length - 1)) else A
def closR (t : List Int) (rs : List (List Int)) : List (List Int) := cloB t 300 0 rs
theorem cloRow_succ (t : List Int) (r : List Int) (A : List (List Int)) (k : Nat) : cloRow t r A (k + 1) = cloK t r (cloRow t r A k) k := by
  unfold cloRow; rw [List.range_succ, List.foldl_append]; rfl
theorem cloK_t {t : List Int} {r : List Int} {A : List (List Int)} {k : Nat} (h : tb (nth t (nth r k).toNat) (nth r (k + 1)).toNat = true) : cloK t r A k = A := by unfold cloK; rw [if_pos h]
theorem cloK_f {t : List Int} {r : List Int} {A : List (List Int)} {k : Nat} (h : tb (nth t (nth r k).toNat) (nth r (k + 1)).toNat = false) : cloK t r A k = if swapR r k ∈ A then A else A ++ [swapR r k] := by unfold cloK; rw [if_neg (by simp [h])]
theorem cloK_len (t : List Int) (r : List Int) (A : List (List Int)) (k : Nat) : A.length ≤ (cloK t r A k).length ∧ (cloK t r A k).length ≤ A.length + 1 := by
  unfold cloK
  split
  · omega
  · split
    · omega
    · simp
theorem cloRow_len (t : List Int) (r : List Int) (A : List (List Int)) : ∀ n, A.length ≤ (cloRow t r A n).length ∧ (cloRow t r A n).length ≤ A.length + n
  | 0 => ⟨Nat.le_refl _, Nat.le_refl _⟩
  | n + 1 => by
    have h1 := cloRow_len t r A n
    have h2 := cloK_len t r (cloRow t r A n) n
    rw [cloRow_succ]; omega
theorem cloK_pre {t : List Int} {r : List Int} {A : List (List Int)} {k i : Nat} (h : i < A.length) : nthR (cloK t r A k) i = nthR A i := by
  unfold cloK
  split
  · rfl
  · split
    · rfl
    · rw [nthR_at (by simp; omega), nthR_at h, List.getElem_append_left h]
theorem cloRow_pre {t : List Int} {r : List Int} {A : List (List Int)} {i : Nat} (h : i < A.length) : ∀ n, nthR (cloRow t r A n) i = nthR A i
  | 0 => rfl
  | n + 1 => by
    rw [cloRow_succ, cloK_pre (by have := (cloRow_len t r A n).1; omega), cloRow_pre h n]
theorem overW_list {n : Nat} {r : List Int} (h : overW n r = true) (hn : n ≤ 100) : ListOk r := by
  have h24 := overW_len h
  unfold overW at h
  simp only [Bool.and_eq_true, decide_eq_true_eq, List.all_eq_true] at h
  refine ⟨by unfold Fits; omega, fun y hy => ?_⟩
  have := h.2 y hy
  unfold I64; omega
theorem swapR_overW {n : Nat} {r : List Int} (h : overW n r = true) {k : Nat} (hk : k + 1 < r.length) : overW n (swapR r k) = true := by
  have hl : (swapR r k).length = r.length := by simp [swapR]
  unfold overW at *
  simp only [Bool.and_eq_true, decide_eq_true_eq, List.all_eq_true] at *
  refine ⟨by omega, fun y hy => ?_⟩
  have hm : ∀ y ∈ swapR r k, y ∈ r := fun y hy => by
    unfold swapR at hy
    rcases List.mem_or_eq_of_mem_set hy with hy | rfl
    · rcases List.mem_or_eq_of_mem_set hy with hy | rfl
      · exact hy
      · exact nth_mem hk
    · exact nth_mem (by omega)
  exact h.2 y (hm y hy)
theorem cloK_overW {n : Nat} {t : List Int} {r : List Int} {A : List (List Int)} {k : Nat} (hA : ∀ y ∈ A, overW n y = true) (hr : overW n r = true) (hk : k + 1 < r.length) : ∀ y ∈ cloK t r A k, overW n y = true := by
  unfold cloK
  split
  · exact hA
  · split
    · exact hA
    · intro y hy
      rcases List.mem_append.1 hy with hy | hy
      · exact hA y hy
      · simp at hy; rw [hy]; exact swapR_overW hr hk
theorem cloRow_overW {n : Nat} {t : List Int} {r : List Int} {A : List (List Int)} (hA : ∀ y ∈ A, overW n y = true) (hr : overW n r = true) : ∀ k, k ≤ r.length - 1 → ∀ y ∈ cloRow t r A k, overW n y = true
  | 0, _ => hA
  | k + 1, hk => by
    rw [cloRow_succ]
    exact cloK_overW (cloRow_overW hA hr k (by omega)) hr (by omega)
theorem l12Closure_spec (a b c : Bool) (x : AlphaV) (hx : isAlphaV x = true) (rs : List (List Int)) (hl : rs.length ≤ 40) (hr : ∀ r ∈ rs, overW x.depends.length r = true) : ACalls1 Tryz.prog 234 [alphaSl a x, .sl 1 b (srows c rs)] (.own 1 true (srows true (closR x.depends rs))) := by
  have hok := alOk_of hx
  have h8 := hok.len
  have ht : TOk x.depends := ⟨by omega, fun i hi => (alOk_M hok hi).1⟩
  unfold closR
  generalize hR : cloB x.depends 300 0 rs = R
  refine walk (fun t => t == 6065) mixed Go.Proofs.Tryz.func234 rfl rfl rfl (by kernel_rfl) rfl (by simp) (by kernel_rfl) ?_
  simp
  refine ⟨_, l01Own2_spec b c rs (by omega) (fun r h => by have := overW_len (hr r h); unfold Fits; omega), ?_⟩
  simp
  refine awp_loop2 [2] [2] (fun q : Nat × List (List Int) => [(6, iv q.1), (5, .ref 200)]) (fun q => [(200, .own 1 true (srows true q.2))]) (fun q => q.1 ≤ 230 ∧ q.2.length ≤ 224 ∧ q.1 ≤ q.2.length ∧ (∀ r ∈ q.2, overW x.depends.length r = true) ∧ cloB x.depends (300 - q.1) q.1 q.2 = R) (fun q => 300 - q.1) (0, rs) (weak_mk (fun t => if t = 200 then some 10 else some t) (by simp) (by simp) rfl) (by simp; exact ⟨by omega, hr, hR⟩) ?_
  rintro ⟨i, A⟩ ⟨hi1, hA1, hi2, hA2, hcl⟩
  simp only at hi1 hA1 hi2 hA2 hcl
  obtain ⟨m, hm⟩ : ∃ m, 300 - i = m + 1 := ⟨299 - i, by omega⟩
  rw [hm, cloB] at hcl
  by_cases hgo : i < A.length ∧ A.length ≤ 200
  · obtain ⟨hli, h200⟩ := hgo
    rw [if_pos ⟨hli, h200⟩] at hcl
    have how := hA2 _ (nthR_mem hli)
    have hrl := overW_len how
    obtain ⟨er, hur, _⟩ := overW_wn how
    generalize hrr : nthR A i = r at *
    simp [hli, show (A.length : Int) ≤ 200 by omega]
    refine awp_loop2 [2, 6] [2] (fun k : Nat => [(7, iv k), (5, .ref 201)]) (fun k => [(201, .own 1 true (srows true (cloRow x.depends r A k)))]) (fun k => k ≤ r.length - 1) (fun k => r.length - k) 0 (weak_mk (fun t => if t = 201 then some 200 else some t) (by simp) (by simp [cloRow]) rfl) (by simp) ?_
    intro k hk
    have hBl := cloRow_len x.depends r A k
    have hBp := cloRow_pre (t := x.depends) (r := r) hli k
    have hBo := cloRow_overW (t := x.depends) hA2 how k hk
    have hsucc := cloRow_succ x.depends r A k
    rw [hrr] at hBp
    have hend : k = r.length - 1 → cloRow x.depends r A k = cloRow x.depends r A (r.length - 1) := fun e => by rw [e]
    generalize cloRow x.depends r A k = B at *
    have hiB : i < B.length := by omega
    have hwk : IntKind.i64.wrap ((k : Int) + 1) = ((k + 1 : Nat) : Int) := by rw [wrap_id _ (by omega) (by omega)]; omega
    by_cases hlk : k + 1 < r.length
    · obtain ⟨p, hp1, hp2⟩ := overW_nth how (show k < r.length by omega)
      obtain ⟨q, hq1, hq2⟩ := overW_nth how hlk
      have hc := l02Dep_spec a x ht p q hp2 (by omega)
      have f1 : (k : Int) + 1 < (r.length : Int) := by omega
      have f2 : i + 1 ≤ B.length := hiB
      have hlR : (swapR r k).length = r.length := by simp [swapR]
      simp [hiB, hBp, hwk, f1, f2, hlk, hp1, hq1, show k < r.length by omega, show (0 : Int) ≤ (k : Int) + 1 by omega]
      repeat (rw [exE_eq]; simp [hiB, hBp, hwk, f1, f2, hlk, hp1, hq1, show k < r.length by omega, show (0 : Int) ≤ (k : Int) + 1 by omega])
      refine ⟨_, hc, ?_⟩
      cases hdp : tb (nth x.depends p) q
      · rw [cloK_f (by rw [hp1, hq1]; exact hdp)] at hsucc
        simp [hiB, hBp, hwk, f1, f2, hlk, hp1, hq1, show k < r.length by omega, show (0 : Int) ≤ (k : Int) + 1 by omega]
        refine ⟨_, l01Own_spec _ r (by unfold Fits; omega), ?_⟩
        simp [hiB, hBp, hwk, f1, f2, hlk, hp1, hq1, show k < r.length by omega, show (0 : Int) ≤ (k : Int) + 1 by omega, ints_put]
        have hsw : (r.set k (q : Int)).set (k + 1) (p : Int) = swapR r k := by unfold swapR; rw [hp1, hq1]
        rw [hsw]
        have how2 := swapR_overW how hlk
        refine ⟨by omega, by omega, ?_⟩
        refine WkK.mk (weak_frz 53 rfl (by simp)) ?_
        simp
        refine ⟨_, l12Has_spec true true B (by omega) (fun y hy => overW_list (hBo y hy) (by omega)) (swapR r k) (by unfold Fits; omega), ?_⟩
        by_cases hin : swapR r k ∈ B
        · rw [if_pos hin] at hsucc
          simp [hin, hwk]
          exact Round.mk (k + 1) (weak_mk some (by simp) (by simp [hsucc]) rfl) (by omega) (by omega)
        · rw [if_neg hin] at hsucc
          simp [hin, hwk]
          exact ⟨by omega, by omega, Round.mk (k + 1) (weak_mk (fun t => if t = 201 then some 83 else some t) (by simp) (by simp [hsucc]) rfl) (by omega) (by omega)⟩
      · rw [cloK_t (by rw [hp1, hq1]; exact hdp)] at hsucc
        simp [hwk]
        exact Round.mk (k + 1) (weak_mk some (by simp) (by simp [hsucc]) rfl) (by omega) (by omega)
    · have hk1 : k = r.length - 1 := by omega
      have f1 : ¬ (k : Int) + 1 < (r.length : Int) := by omega
      have hB : B = cloRow x.depends r A (r.length - 1) := hend hk1
      rw [← hB] at hcl
      simp [hiB, hBp, f1, show i + 1 ≤ B.length from hiB, hwk]
      rw [wrap_id ((i : Int) + 1) (by omega) (by omega)]
      exact Round.mk (i + 1, B) (weak_mk (fun t => if t = 200 then some 201 else some t) (by simp) (by simp) rfl) ⟨by simp only; omega, by simp only; omega, by simp only; omega, hBo, by simp only; rw [show 300 - (i + 1) = m by omega]; exact hcl⟩ (by simp only; omega)
  · have hend : A = R := by rw [← hcl, if_neg hgo]
    rw [← hend]
    by_cases hli : i < A.length
    · have h200 : ¬ (A.length : Int) ≤ 200 := by omega
      simp [hli, h200]
    · simp [hli]
/-- Words without their first ones. -/
def putAll (rs : List (List Int)) (k : Nat) : List (List Int) := (rs.take k).foldl putS []
theorem putAll_succ {rs : List (List Int)} {k : Nat} (h : k < rs.length) : putAll rs (k + 1) = putS (putAll rs k) (nthR rs k) := by
  unfold putAll
  rw [List.take_succ_eq_append_getElem h, List.foldl_append, nthR_at h]; rfl
theorem putAll_ok {rs : List (List Int)} : ∀ k, k ≤ rs.length → Strict (putAll rs k) ∧ (∀ r ∈ putAll rs k, r ∈ rs) ∧ (putAll rs k).length ≤ k
  | 0, _ => ⟨List.Pairwise.nil, fun r hr => by simp [putAll] at hr, by simp [putAll]⟩
  | k + 1, hk => by
    obtain ⟨h1, h2, h3⟩ := putAll_ok (rs := rs) k (by omega)
    have hl := putS_len (putAll rs k) (nthR rs k)
    rw [putAll_succ (by omega)]
    refine ⟨putS_strict h1 _, fun r hr => ?_, by omega⟩
    rcases putS_mem.1 hr with rfl | hr
    · exact nthR_mem (by omega)
    · exact h2 r hr
theorem cloB_overW {n : Nat} {t : List Int} : ∀ (m i : Nat) {A : List (List Int)}, (∀ y ∈ A, overW n y = true) → (∀ y ∈ cloB t m i A, overW n y = true)
  | 0, _, _, h => h
  | m + 1, i, A, h => by
    rw [cloB]
    split
    · rename_i hgo
      exact cloB_overW m (i + 1) (cloRow_overW h (h _ (nthR_mem hgo.1)) _ (Nat.le_refl _))
    · exact h
theorem cloB_len {t : List Int} : ∀ (m i : Nat) {A : List (List Int)}, A.length ≤ 224 → (∀ y ∈ A, y.length ≤ 24) → (∀ y ∈ cloB t m i A, y.length ≤ 24) ∧ (cloB t m i A).length ≤ 224
  | 0, _, _, h, h2 => ⟨h2, h⟩
  | m + 1, i, A, h, h2 => by
    rw [cloB]
    split
    · rename_i hgo
      have hr := h2 _ (nthR_mem hgo.1)
      refine cloB_len m (i + 1) (by have := (cloRow_len t (nthR A i) A ((nthR A i).length - 1)).2; omega) ?_
      have : ∀ k, ∀ y ∈ cloRow t (nthR A i) A k, y.length ≤ 24 := by
        intro k
        induction k with
        | zero => exact h2
        | succ k ih =>
          intro y hy
          rw [cloRow_succ] at hy
          unfold cloK at hy
          split at hy
          · exact ih y hy
          · split at hy
            · exact ih y hy
            · rcases List.mem_append.1 hy with hy | hy
              · exact ih y hy
              · simp at hy; rw [hy]; simp [swapR]; exact hr
      exact this _
    · exact ⟨h2, h⟩
/-- The closure of a list of words. -/
def closureV (x : AlphaV) (rs : List (List Int)) : List (List Int) × Int :=
  if isFin x rs = true then (if (closR x.depends rs).length ≤ 200 then (putAll (closR x.depends rs) (closR x.depends rs).length, 0) else ([], 3)) else ([], 1)
theorem specClosureOf_spec (a b c : Bool) (x : AlphaV) (hx : I64 x.letters) (hd : Fits x.depends) (rs : List (List Int)) (hl : rs.length ≤ 1000000) (hr : ∀ r ∈ rs, Fits r) :
    ACalls1 Tryz.prog 210 [alphaSl a x, .sl 1 b (srows c rs)] (.tup [.sl 1 false (srows true (closureV x rs).1), iv (closureV x rs).2]) := by
  refine walk (fun t => t == 4019 || t == 3015) mixed Go.Proofs.Tryz.func210 rfl rfl rfl (by kernel_rfl) rfl (by simp) (by kernel_rfl) ?_
  simp
  refine ⟨_, specIsFinite_spec a b c x hx hd rs (by omega) hr, ?_⟩
  unfold closureV
  cases hfin : isFin x rs
  · simp
  · obtain ⟨hal, hov, h40⟩ := isFin_rows hfin
    simp
    refine ⟨_, l12Closure_spec a b c x hal rs h40 hov, ?_⟩
    have hco : ∀ y ∈ closR x.depends rs, overW x.depends.length y = true := cloB_overW 300 0 hov
    generalize closR x.depends rs = C at *
    simp
    by_cases h200 : C.length ≤ 200
    · simp [h200, show ¬ (200 : Int) < (C.length : Int) by omega, show (C.length : Int) ≤ 200 by omega]
      refine awp_loop2 [6] [] (fun k : Nat => [(8, iv k), (7, .sl 1 true (srows true (putAll C k)))]) (fun _ => []) (fun k => k ≤ C.length) (fun k => C.length - k) 0 (weak_mk some (by simp [putAll]) (by simp) rfl) (by simp) ?_
      intro k hk
      obtain ⟨p1, p2, p3⟩ := putAll_ok (rs := C) k hk
      by_cases hlt : k < C.length
      · have hs := putAll_succ hlt
        have how := hco _ (nthR_mem hlt)
        have hput := l12Put_set true (putAll C k) (by omega) (fun r hr => by have := overW_len (hco r (p2 r hr)); unfold Fits; omega) (nthR C k) (by have := overW_len how; unfold Fits; omega) p1
        rw [← hs] at hput
        simp [hlt]
        refine ⟨_, hput, ?_⟩
        simp
        rw [wrap_id ((k : Int) + 1) (by omega) (by omega)]
        exact Round.mk (k + 1) (weak_mk some (by simp) (by simp) rfl) hlt (by omega)
      · obtain rfl : k = C.length := by omega
        simp
    · simp [h200, show (200 : Int) < (C.length : Int) by omega, show ¬ (C.length : Int) ≤ 200 by omega]
/-- A word of so many drawn letters. -/
def dwW (L : Int) (l : List Int) : Nat → Src → List Int → Src × List Int
  | 0, s, v => (s, v)
  | m + 1, s, v => if 0 < L then dwW L l m (nxS l s L) (v ++ [nxN l s L]) else (s, v)
def dwL (L len : Int) (l : List Int) : Nat → Src → List (List Int) → Src × List (List Int)
  | 0, s, A => (s, A)
  | k + 1, s, A => dwL L len l k (dwW L l (nxN l s (len + 1)).toNat (nxS l s (len + 1)) []).1 (putS A (dwW L l (nxN l s (len + 1)).toNat (nxS l s (len + 1)) []).2)
theorem dwW_ok {n : Nat} {l : List Int} : ∀ (m : Nat) {s : Src} {v : List Int}, SrcOk l s → overW n v = true → v.length + m ≤ 24 →
    SrcOk l (dwW n l m s v).1 ∧ overW n (dwW n l m s v).2 = true ∧ (dwW n l m s v).2.length ≤ v.length + m
  | 0, s, v, hs, hv, _ => ⟨hs, hv, Nat.le_refl _⟩
  | m + 1, s, v, hs, hv, hm => by
    rw [dwW]
    by_cases h0 : (0 : Int) < n
    · rw [if_pos h0]
      have hb := nxN_rng hs (n : Int)
      have hv2 : overW n (v ++ [nxN l s n]) = true := by
        unfold overW at *
        simp only [Bool.and_eq_true, decide_eq_true_eq, List.all_eq_true] at *
        refine ⟨by simp; omega, fun y hy => ?_⟩
        rcases List.mem_append.1 hy with hy | hy
        · exact hv.2 y hy
        · simp at hy; rw [hy]; omega
      obtain ⟨a1, a2, a3⟩ := dwW_ok (n := n) (l := l) m (s := nxS l s n) (v := v ++ [nxN l s n]) (nxS_ok hs n) hv2 (by simp; omega)
      exact ⟨a1, a2, by simp at a3; omega⟩
    · rw [if_neg h0]; exact ⟨hs, hv, by simp only; omega⟩
theorem overW_nil (n : Nat) : overW n [] = true := by simp [overW]
/-- What a drawn list is like. -/
structure LstOk (n len : Nat) (K : Nat) (A : List (List Int)) : Prop where
  st : Strict A
  ok : ∀ r ∈ A, overW n r = true ∧ r.length ≤ len
  len : A.length ≤ K
theorem dwL_ok {n len : Nat} (hlen : len ≤ 24) {l : List Int} : ∀ (k K : Nat) {s : Src} {A : List (List Int)}, SrcOk l s → LstOk n len K A →
    SrcOk l (dwL n len l k s A).1 ∧ LstOk n len (K + k) (dwL n len l k s A).2
  | 0, K, s, A, hs, hA => ⟨hs, hA⟩
  | k + 1, K, s, A, hs, hA => by
    rw [dwL]
    have hb := nxN_rng hs ((len : Int) + 1)
    have hs2 := nxS_ok hs ((len : Int) + 1)
    generalize nxN l s ((len : Int) + 1) = r at *
    generalize nxS l s ((len : Int) + 1) = s2 at *
    obtain ⟨c, rfl⟩ := Int.eq_ofNat_of_zero_le hb.1
    simp only [Int.toNat_natCast]
    obtain ⟨a1, a2, a3⟩ := dwW_ok (n := n) (l := l) c (s := s2) (v := []) hs2 (overW_nil n) (by simp; omega)
    simp at a3
    have hl := putS_len A (dwW n l c s2 []).2
    have := dwL_ok (n := n) hlen (l := l) k (K + 1) (s := (dwW n l c s2 []).1) (A := putS A (dwW n l c s2 []).2) a1 ⟨putS_strict hA.st _, fun r hr => by
      rcases putS_mem.1 hr with rfl | hr
      · exact ⟨a2, by omega⟩
      · exact hA.ok r hr, by have := hA.len; omega⟩
    rw [show K + (k + 1) = K + 1 + k by omega]
    exact this
/-- The list that is drawn, perhaps closed. -/
def dwList (x : AlphaV) (l : List Int) (n len : Int) (s : Src) : Src × List (List Int) :=
  (nxS l (dwL x.letters len l (nxN l s (n + 1)).toNat (nxS l s (n + 1)) []).1 4,
    if nxN l (dwL x.letters len l (nxN l s (n + 1)).toNat (nxS l s (n + 1)) []).1 4 = 0 ∧ (closureV x (dwL x.letters len l (nxN l s (n + 1)).toNat (nxS l s (n + 1)) []).2).2 = 0 ∧ (closureV x (dwL x.letters len l (nxN l s (n + 1)).toNat (nxS l s (n + 1)) []).2).1.length ≤ 40
    then (closureV x (dwL x.letters len l (nxN l s (n + 1)).toNat (nxS l s (n + 1)) []).2).1 else (dwL x.letters len l (nxN l s (n + 1)).toNat (nxS l s (n + 1)) []).2)
theorem l12DrawList_spec (nn a : Bool) (l : List Int) (s : Src) (hs : SrcOk l s) (x : AlphaV) (hx : isAlphaV x = true) (n len : Nat) (hn : n ≤ 10) (hlen : len ≤ 10) :
    ACalls2 Tryz.prog 157 [srcA nn l s, alphaSl a x, iv n, iv len] [srcA nn l (dwList x l n len s).1, alphaSl a x, iv n, iv len] (.sl 1 false (srows true (dwList x l n len s).2)) := by
  have hok := alOk_of hx
  have h8 := hok.len
  have hlet := hok.let_
  unfold dwList
  have hwn : IntKind.i64.wrap ((n : Int) + 1) = (n : Int) + 1 := wrap_id _ (by omega) (by omega)
  have hwl : IntKind.i64.wrap ((len : Int) + 1) = (len : Int) + 1 := wrap_id _ (by omega) (by omega)
  refine walkO (fun t => t == 4015 || t == 2019 || t == 2028 || t == 2042 || t == 2049 || t == 2047) mixed Go.Proofs.Tryz.func157 rfl rfl rfl (by kernel_rfl) (by simp) (by simp) (by simp) (by kernel_rfl) ?_
  simp [hwn]
  refine ⟨_, _, l01Next_spec nn l s hs _ (by unfold I64; omega), ?_⟩
  have hs1 := nxS_ok hs ((n : Int) + 1)
  have ha1 := nxN_rng hs ((n : Int) + 1)
  generalize nxS l s ((n : Int) + 1) = s1 at *
  generalize nxN l s ((n : Int) + 1) = r1 at *
  obtain ⟨k0, rfl⟩ := Int.eq_ofNat_of_zero_le ha1.1
  simp only [Int.toNat_natCast]
  obtain ⟨z1, z2⟩ := dwL_ok (n := x.depends.length) (len := len) (by omega) (l := l) k0 0 hs1 (A := []) ⟨List.Pairwise.nil, fun r hr => by simp at hr, by simp⟩
  rw [← hlet] at z1 z2
  generalize hR : dwL x.letters len l k0 s1 [] = R at *
  simp
  refine awp_loop2 [0, 3, 5] [5] (fun q : Src × Nat × List (List Int) => [(10, iv q.2.1), (9, .sl 1 true (srows true q.2.2))]) (fun q => [(1000000000, srcA nn l q.1)])
    (fun q => SrcOk l q.1 ∧ LstOk x.depends.length len (20 - q.2.1) q.2.2 ∧ q.2.1 ≤ 10 ∧ dwL x.letters len l q.2.1 q.1 q.2.2 = R) (fun q => q.2.1) (s1, k0, []) (weak_mk some (by simp) (by simp) rfl) ⟨hs1, ⟨List.Pairwise.nil, fun r hr => by simp at hr, by simp⟩, by simp only; omega, hR⟩ ?_
  rintro ⟨q, k, A⟩ ⟨hq, hA, hk10, hdw⟩
  simp only at hq hA hk10 hdw
  by_cases hk : 0 < k
  · obtain ⟨m, rfl⟩ : ∃ m, k = m + 1 := ⟨k - 1, by omega⟩
    rw [dwL] at hdw
    simp [hwl]
    refine ⟨_, _, l01Next_spec nn l q hq _ (by unfold I64; omega), ?_⟩
    have hq1 := nxS_ok hq ((len : Int) + 1)
    have hb1 := nxN_rng hq ((len : Int) + 1)
    generalize nxS l q ((len : Int) + 1) = q1 at *
    generalize nxN l q ((len : Int) + 1) = r2 at *
    obtain ⟨c0, rfl⟩ := Int.eq_ofNat_of_zero_le hb1.1
    simp only [Int.toNat_natCast] at hdw
    obtain ⟨w1, w2, w3⟩ := dwW_ok (n := x.depends.length) (l := l) c0 (s := q1) (v := []) hq1 (overW_nil _) (by simp; omega)
    rw [← hlet] at w1 w2 w3
    generalize hW : dwW x.letters l c0 q1 [] = W at *
    simp
    refine awp_loop2 [0, 3, 5, 9, 10] [5] (fun z : Src × Nat × List Int => [(12, iv z.2.1), (11, .ref 200)]) (fun z => [(1000000000, srcA nn l z.1), (200, .own 1 true (ints z.2.2))])
      (fun z => SrcOk l z.1 ∧ z.2.1 + z.2.2.length ≤ 20 ∧ dwW x.letters l z.2.1 z.1 z.2.2 = W) (fun z => z.2.1) (q1, c0, []) (weak_mk (fun t => if t = 200 then some 24 else some t) (by simp) (by simp) rfl) ⟨hq1, by simp; omega, hW⟩ ?_
    rintro ⟨y, c, v⟩ ⟨hy, hcl, hwv⟩
    simp only at hy hcl hwv
    by_cases hgo : 0 < c ∧ 0 < x.letters
    · obtain ⟨hc0, hL0⟩ := hgo
      obtain ⟨e, rfl⟩ : ∃ e, c = e + 1 := ⟨c - 1, by omega⟩
      rw [dwW, if_pos hL0] at hwv
      simp [hL0]
      refine ⟨_, _, l01Next_spec nn l y hy _ (by unfold I64; omega), ?_⟩
      have hy1 := nxS_ok hy x.letters
      generalize nxS l y x.letters = y1 at *
      generalize nxN l y x.letters = g at *
      simp
      rw [wrap_id (e : Int) (by omega) (by omega)]
      exact ⟨by omega, by omega, Round.mk (y1, e, v ++ [g]) (weak_mk (fun t => if t = 200 then some 44 else some t) (by simp) (by simp) rfl) ⟨hy1, by simp; omega, hwv⟩ (by simp only; omega)⟩
    · have hWe : W = (y, v) := by
        rw [← hwv]
        cases c with
        | zero => rfl
        | succ c => rw [dwW, if_neg (by omega)]
      subst hWe
      have hput := l12Put_own true A (by have := hA.len; omega) (fun r hr => by have := (hA.ok r hr).2; unfold Fits; omega) v (by unfold Fits; omega) hA.st
      have hlp := putS_len A v
      have hA2 : LstOk x.depends.length len (20 - m) (putS A v) := ⟨putS_strict hA.st _, fun r hr => by
        rcases putS_mem.1 hr with rfl | hr
        · exact ⟨w2, by simp at w3; omega⟩
        · exact hA.ok r hr, by have := hA.len; omega⟩
      by_cases hc0 : 0 < c
      · have hL0 : ¬ 0 < x.letters := by omega
        simp [hc0, hL0]
        refine ⟨_, _, hput, ?_⟩
        simp
        rw [wrap_id (m : Int) (by omega) (by omega)]
        exact Round.mk (y, m, putS A v) (weak_mk some (by simp) (by simp) rfl) ⟨w1, hA2, by simp only; omega, hdw⟩ (by simp only; omega)
      · simp [hc0]
        refine ⟨_, _, hput, ?_⟩
        simp
        rw [wrap_id (m : Int) (by omega) (by omega)]
        exact Round.mk (y, m, putS A v) (weak_mk some (by simp) (by simp) rfl) ⟨w1, hA2, by simp only; omega, hdw⟩ (by simp only; omega)
  · obtain rfl : k = 0 := by omega
    simp only [dwL] at hdw
    subst hdw
    simp only
    simp
    refine ⟨_, _, l01Next_spec nn l q hq 4 (by unfold I64; omega), ?_⟩
    generalize nxS l q 4 = q4 at *
    generalize nxN l q 4 = r4 at *
    simp
    have hcl := specClosureOf_spec a true true x (by rw [hlet]; unfold I64; omega) (by unfold Fits; omega) A (by have := hA.len; omega) (fun r hr => by have := (hA.ok r hr).2; unfold Fits; omega)
    by_cases h4 : r4 = 0
    · generalize closureV x A = C at *
      simp [h4]
      refine ⟨_, hcl, ?_⟩
      by_cases hc0 : C.2 = 0
      · by_cases hc4 : C.1.length ≤ 40
        · simp [hc0, hc4, show (C.1.length : Int) ≤ 40 by omega]
          try repeat (rw [exE_eq]; simp [hc0, hc4, show (C.1.length : Int) ≤ 40 by omega])
        · simp [hc0, hc4, show ¬ (C.1.length : Int) ≤ 40 by omega]
          try repeat (rw [exE_eq]; simp [hc0, hc4, show ¬ (C.1.length : Int) ≤ 40 by omega])
      · simp [hc0]
        try repeat (rw [exE_eq]; simp [hc0])
    · simp [h4]
end Go.AM
