/-
  Contracts: nets, first part.
-/
import Derived.Test.YtmpdpjpebekfkaaFnA
set_option linter.unusedVariables false
set_option linter.unusedSimpArgs false
set_option maxRecDepth 100000
set_option maxHeartbeats 1600000
namespace Go.AM
open Go.Proofs

/-- A mask of `n` members. -/
def isMaskB (m n : Int) : Bool := (decide (0 ≤ n) && decide (n ≤ 24)) && (decide (0 ≤ m) && decide (m ≤ full n))
theorem IsMask_spec (m n : Int) : ACalls1 Try.prog 53 [iv m, iv n] (bv (isMaskB m n)) := by
  refine walk (fun _ => false) mixed Go.Proofs.Try.func53 rfl rfl rfl (by kernel_rfl) rfl (by simp) (by kernel_rfl) ?_
  simp
  refine ⟨_, inRange_spec _ _ _, ?_⟩
  unfold isMaskB
  generalize hb : (decide (0 ≤ n) && decide (n ≤ 24)) = b
  cases b
  · simp; all_goals exact le_bool rfl
  · simp
    simp at hb
    refine ⟨_, one_spec n hb.1, ?_⟩
    simp
    refine ⟨_, inRange_spec _ _ _, ?_⟩
    simp
    all_goals exact le_bool rfl
/-- What is left. -/
def szI (left : Int) (n : Nat) : Int := if left - n < 0 then -1 else left - n
theorem szInt64S_spec (nn : Bool) (l : List Int) (left : Int) (hl : l.length ≤ maxLen) (h0 : 0 ≤ left) (h1 : left ≤ 1048576) : ACalls1 Try.prog 39 [.sl 1 nn (ints l), iv left] (iv (szI left l.length)) := by
  unfold maxLen at hl
  refine walk (fun _ => false) mixed Go.Proofs.Try.func39 rfl rfl rfl (by kernel_rfl) rfl (by simp) (by kernel_rfl) ?_
  simp
  rw [wrap_id _ (by omega) (by omega)]
  unfold szI
  constructor
  · intro h; exact le_int (by simp; omega)
  · intro h; exact le_int (by rw [if_neg (by omega)])
@[reducible] def netA (n1 n2 : Bool) (p : Int) (pre post : List Int) (s : Int) : AV := .agg [iv p, .sl 1 n1 (ints pre), .sl 1 n2 (ints post), iv s]
/-- A net's data. -/
structure NetV where
  p : Int
  pre : List Int
  post : List Int
  s : Int
@[reducible] def netSl (n1 n2 : Bool) (x : NetV) : AV := netA n1 n2 x.p x.pre x.post x.s
@[reducible] def netOw (b1 b2 : Bool) (x : NetV) : AV := .agg [iv x.p, .own 1 b1 (ints x.pre), .own 1 b2 (ints x.post), iv x.s]
@[reducible] def netO (p : Int) (pre post : List Int) (s : Int) : AV := .agg [iv p, .own 1 true (ints pre), .own 1 true (ints post), iv s]
def szNetI (left : Int) (a b : Nat) : Int := if szI left a < 0 then -1 else szI (szI left a) b
theorem szNet_spec (n1 n2 : Bool) (p : Int) (pre post : List Int) (s left : Int) (hl : pre.length ≤ maxLen) (hl' : post.length ≤ maxLen) (h0 : 0 ≤ left) (h1 : left ≤ 1048576) :
    ACalls1 Try.prog 13 [netA n1 n2 p pre post s, iv left] (iv (szNetI left pre.length post.length)) := by
  refine walk (fun t => t == 2) mixed Go.Proofs.Try.func13 rfl rfl rfl (by kernel_rfl) rfl (by simp) (by kernel_rfl) ?_
  simp
  refine ⟨_, szInt64S_spec n1 pre left hl h0 h1, ?_⟩
  simp
  unfold szNetI
  refine ⟨by grind, fun h => ?_⟩
  refine ⟨_, szInt64S_spec n2 post _ hl' h (by unfold szI; split <;> omega), ?_⟩
  simp
  grind [szI]
theorem szNetI_le {left : Int} {a b : Nat} (h : ¬ szNetI left a b < 0) : a ≤ left ∧ b ≤ left := by
  unfold szNetI szI at h
  by_cases h1 : left - (a : Int) < 0
  · rw [if_pos h1] at h; omega
  · rw [if_neg h1, if_neg h1] at h
    by_cases h2 : left - (a : Int) - b < 0
    · rw [if_pos h2] at h; omega
    · omega
theorem toNet_spec (n1 n2 : Bool) (p : Int) (pre post : List Int) (s : Int) (h1 : Fits pre) (h2 : Fits post) : ACalls1 Try.prog 15 [netA n1 n2 p pre post s] (netO p pre post s) := by
  refine walk (fun t => t == 1) mixed Go.Proofs.Try.func15 rfl rfl rfl (by kernel_rfl) rfl (by simp) (by kernel_rfl) ?_
  simp
  refine ⟨_, toInt64S_spec n1 pre h1, ?_⟩
  simp
  refine ⟨_, toInt64S_spec n2 post h2, ?_⟩
  simp
theorem eqNet_spec (n1 n2 m1 m2 : Bool) (p p' : Int) (pre post pre' post' : List Int) (s s' : Int) (h1 : Fits pre) (h2 : Fits post) :
    ACalls1 Try.prog 18 [netA n1 n2 p pre post s, netA m1 m2 p' pre' post' s'] (bv (p == p' && pre == pre' && post == post' && s == s')) := by
  refine walk (fun t => t == 2 || t == 3) mixed Go.Proofs.Try.func18 rfl rfl rfl (by kernel_rfl) rfl (by simp) (by kernel_rfl) ?_
  simp
  refine ⟨by grind, fun h => ?_⟩
  subst h
  refine ⟨_, eqInt64S_spec n1 m1 pre pre' h1, ?_⟩
  simp
  refine ⟨by grind, fun h => ?_⟩
  subst h
  refine ⟨_, eqInt64S_spec n2 m2 post post' h2, ?_⟩
  simp
  grind
/-- One transition. -/
def isTr (p x y : Int) : Bool := (decide (0 ≤ x) && decide (x ≤ full p)) && (decide (0 ≤ y) && decide (y ≤ full p)) && (ibits .or .i64 x y != 0)
/-- A net. -/
def isNet (p : Int) (pre post : List Int) (s : Int) : Bool := (decide (0 ≤ p) && decide (p ≤ 12)) && ((pre.length : Int) == post.length) && decide ((pre.length : Int) ≤ 8) && (decide (0 ≤ s) && decide (s ≤ full p)) &&
  (List.range pre.length).all fun k => isTr p (pre.getD k 0) (post.getD k 0)
theorem isNet_end {p : Int} {pre post : List Int} {s : Int} (h1 : (decide (0 ≤ p) && decide (p ≤ 12)) = true) (h2 : pre.length = post.length) (h3 : pre.length ≤ 8) (h4 : (decide (0 ≤ s) && decide (s ≤ full p)) = true)
    (h : ∀ i < pre.length, isTr p (pre.getD i 0) (post.getD i 0) = true) : isNet p pre post s = true := by
  unfold isNet
  rw [h1, h4]
  simp only [Bool.and_eq_true, List.all_eq_true, List.mem_range]
  simp [h2] at h ⊢
  exact ⟨by omega, h⟩
theorem isNet_bad {p : Int} {pre post : List Int} {s : Int} (i : Nat) (hi : i < pre.length) (h : isTr p (pre.getD i 0) (post.getD i 0) = false) : isNet p pre post s = false := by
  unfold isNet
  have : ((List.range pre.length).all fun k => isTr p (pre.getD k 0) (post.getD k 0)) = false := by
    rw [List.all_eq_false]
    exact ⟨i, by simpa using hi, by rw [h]; simp⟩
  rw [this]; simp
theorem l17Is_spec (n1 n2 : Bool) (p : Int) (pre post : List Int) (s : Int) (hp : I64 p) : ACalls1 Try.prog 31 [netA n1 n2 p pre post s] (bv (isNet p pre post s)) := by
  refine walk (fun t => t == 1) mixed Go.Proofs.Try.func31 rfl rfl rfl (by kernel_rfl) rfl (by simp) (by kernel_rfl) ?_
  simp
  refine ⟨_, l01In_spec _ _ _, ?_⟩
  by_cases h1 : (decide (0 ≤ p) && decide (p ≤ 12)) = true
  · rw [h1]
    by_cases h2 : (pre.length : Int) = post.length
    · by_cases h3 : (pre.length : Int) ≤ 8
      · simp [h2, show ¬ (8 : Int) < post.length by omega]
        refine ⟨_, l01Full_spec p hp, ?_⟩
        simp
        refine ⟨_, l01In_spec _ _ _, ?_⟩
        by_cases h4 : (decide (0 ≤ s) && decide (s ≤ full p)) = true
        · rw [h4]
          simp
          refine awp_loop (fun k : Nat => ⟨asS [(1, .ip [iv p, .sl 1 n1 (ints pre), .sl 1 n2 (ints post), iv s]), (3, iv k)], asO [], 75⟩) (fun k => k ≤ pre.length ∧ ∀ i, i < k → isTr p (pre.getD i 0) (post.getD i 0) = true) (fun k => pre.length - k) 0 ?_ ?_ ?_
          · exact weak_mk some (by simp) (by simp) rfl
          · exact ⟨Nat.zero_le _, fun i hi => by omega⟩
          · rintro k ⟨hk, hi⟩
            by_cases hlt : k < pre.length
            · have hlt' : k < post.length := by omega
              simp [nth_at, hlt, hlt']
              repeat (refine And.intro (by omega) ?_)
              refine ⟨_, l01Full_spec p hp, ?_⟩
              simp
              refine ⟨_, l01In_spec _ _ _, ?_⟩
              have bad := isNet_bad (p := p) (pre := pre) (post := post) (s := s) k hlt
              have next : isTr p (pre.getD k 0) (post.getD k 0) = true → k + 1 ≤ pre.length ∧ ∀ i, i < k + 1 → isTr p (pre.getD i 0) (post.getD i 0) = true := fun h => ⟨hlt, fun i h' => by
                by_cases e : i = k
                · subst e; exact h
                · exact hi i (by omega)⟩
              rw [getD_at pre k hlt, getD_at post k hlt'] at bad next
              unfold isTr at bad
              rw [isTr] at next
              generalize (decide (0 ≤ pre[k]) && decide (pre[k] ≤ full p)) = b1 at *
              cases b1
              · simp
                exact bad rfl
              · simp [nth_at, hlt, hlt']
                repeat (refine And.intro (by omega) ?_)
                refine ⟨_, l01Full_spec p hp, ?_⟩
                simp
                refine ⟨_, l01In_spec _ _ _, ?_⟩
                generalize (decide (0 ≤ post[k]) && decide (post[k] ≤ full p)) = b2 at *
                cases b2
                · simp
                  exact bad rfl
                · simp [nth_at, hlt, hlt']
                  repeat (refine And.intro (by omega) ?_)
                  constructor
                  · intro h
                    exact bad (by simp [h])
                  · intro h
                    rw [wrap_id _ (by omega) (by omega)]
                    exact Round.mk (k + 1) (weak_mk some (by simp) (by simp) rfl) (next (by simpa using h)) (by omega)
            · simp [nth_at, hlt]
              exact isNet_end h1 (by omega) (by omega) h4 fun i h => hi i (by omega)
        · rw [Bool.not_eq_true] at h4
          rw [h4]
          simp
          exact le_bool (by simp [isNet, h4])
      · simp [h2, show (8 : Int) < post.length by omega]
        exact le_bool (by simp [isNet, h2, show ¬ (post.length : Int) ≤ 8 by omega])
    · simp [h2]
      exact le_bool (by simp [isNet, h2])
  · rw [Bool.not_eq_true] at h1
    rw [h1]
    simp
    exact le_bool (by simp [isNet, h1])
theorem isNet_mask {p : Int} (h1 : (decide (0 ≤ p) && decide (p ≤ 12)) = true) (x : Int) : isMaskB x p = (decide (0 ≤ x) && decide (x ≤ full p)) := by
  unfold isMaskB
  rw [show (decide (0 ≤ p) && decide (p ≤ 24)) = true by simp at h1 ⊢; omega]
  simp
theorem IsNet_spec (n1 n2 : Bool) (p : Int) (pre post : List Int) (s : Int) : ACalls1 Try.prog 26 [netA n1 n2 p pre post s] (bv (isNet p pre post s)) := by
  refine walk (fun t => t == 1) mixed Go.Proofs.Try.func26 rfl rfl rfl (by kernel_rfl) rfl (by simp) (by kernel_rfl) ?_
  simp
  refine ⟨_, inRange_spec _ _ _, ?_⟩
  by_cases h1 : (decide (0 ≤ p) && decide (p ≤ 12)) = true
  · rw [h1]
    by_cases h3 : (pre.length : Int) ≤ 8
    · by_cases h2 : (pre.length : Int) = post.length
      · simp [h2, show ¬ (8 : Int) < post.length by omega]
        refine ⟨_, IsMask_spec _ _, ?_⟩
        rw [isNet_mask h1]
        by_cases h4 : (decide (0 ≤ s) && decide (s ≤ full p)) = true
        · rw [h4]
          simp
          refine awp_loop (fun k : Nat => ⟨asS [(1, .ip [iv p, .sl 1 n1 (ints pre), .sl 1 n2 (ints post), iv s]), (33, iv pre.length), (34, iv k)], asO [], 72⟩) (fun k => k ≤ pre.length ∧ ∀ i, i < k → isTr p (pre.getD i 0) (post.getD i 0) = true) (fun k => pre.length - k) 0 ?_ ?_ ?_
          · exact weak_mk some (by simp [h2]) (by simp) rfl
          · exact ⟨Nat.zero_le _, fun i hi => by omega⟩
          · rintro k ⟨hk, hi⟩
            by_cases hlt : k < pre.length
            · have hlt' : k < post.length := by omega
              simp [nth_at, hlt, hlt']
              repeat (refine And.intro (by omega) ?_)
              refine ⟨_, IsMask_spec _ _, ?_⟩
              rw [isNet_mask h1]
              have bad := isNet_bad (p := p) (pre := pre) (post := post) (s := s) k hlt
              have next : isTr p (pre.getD k 0) (post.getD k 0) = true → k + 1 ≤ pre.length ∧ ∀ i, i < k + 1 → isTr p (pre.getD i 0) (post.getD i 0) = true := fun h => ⟨hlt, fun i h' => by
                by_cases e : i = k
                · subst e; exact h
                · exact hi i (by omega)⟩
              rw [getD_at pre k hlt, getD_at post k hlt'] at bad next
              unfold isTr at bad
              rw [isTr] at next
              generalize (decide (0 ≤ pre[k]) && decide (pre[k] ≤ full p)) = b1 at *
              cases b1
              · simp
                exact bad rfl
              · simp [nth_at, hlt, hlt']
                repeat (refine And.intro (by omega) ?_)
                refine ⟨_, IsMask_spec _ _, ?_⟩
                rw [isNet_mask h1]
                generalize (decide (0 ≤ post[k]) && decide (post[k] ≤ full p)) = b2 at *
                cases b2
                · simp
                  exact bad rfl
                · simp [nth_at, hlt, hlt']
                  repeat (refine And.intro (by omega) ?_)
                  constructor
                  · intro h
                    exact bad (by simp [h])
                  · intro h
                    rw [wrap_id _ (by omega) (by omega)]
                    exact Round.mk (k + 1) (weak_mk some (by simp) (by simp) rfl) (next (by simpa using h)) (by omega)
            · simp [nth_at, hlt]
              exact isNet_end h1 (by omega) (by omega) h4 fun i h => hi i (by omega)
        · rw [Bool.not_eq_true] at h4
          rw [h4]
          simp
          exact le_bool (by simp [isNet, h4])
      · have h2' : ¬ (post.length : Int) = pre.length := by omega
        simp [h2', show ¬ (8 : Int) < pre.length by omega]
        exact le_bool (by simp [isNet, h2])
    · simp [show (8 : Int) < pre.length by omega]
      exact le_bool (by simp [isNet, show ¬ (pre.length : Int) ≤ 8 by omega])
  · rw [Bool.not_eq_true] at h1
    rw [h1]
    simp
    exact le_bool (by simp [isNet, h1])
end Go.AM
