/-
  CountOrders, the reference's side.
-/
import Derived.Test.YtimfhkglmiihgaaDoorFnOc
set_option linter.unusedVariables false
set_option linter.unusedSimpArgs false
set_option maxRecDepth 100000
set_option maxHeartbeats 1600000
namespace Go.AM
open Go.Proofs
theorem up_dn {b : Int} (hb : M b) {e : Nat} (he : e < 63) (ht : tb b e = true) : upS (dnS b e) e = b := by
  apply tb_ext (up_M (dn_M hb he) he) hb
  intro i _
  rw [tb_up (dn_M hb he) he, tb_dn hb he]
  by_cases ei : e = i
  · subst ei; simp [ht]
  · simp [ei]
theorem dn_lt {b : Nat} (hb : M b) {e : Nat} (he : e < 63) (ht : tb b e = true) : ∃ d : Nat, dnS b e = d ∧ d < b := by
  have h1 := up_dn hb he ht
  have h2 : (dnS b e != b) = true := by rw [dn_ne hb he]; exact ht
  obtain ⟨d, hd, hl⟩ := M_nat (dn_M hb he)
  refine ⟨d, hd, ?_⟩
  have hp : 2 ^ e < 2 ^ 63 := Nat.pow_lt_pow_right (by omega) he
  rw [hd, upS, pow1_eq he, ib_or d (2 ^ e) hl hp] at h1
  have h3 : d ||| 2 ^ e = b := by omega
  have h4 : d ≤ d ||| 2 ^ e := Nat.left_le_or
  have h5 : d ≠ b := fun h => by rw [hd, h] at h2; simp at h2
  omega
theorem sumN_bd {f : Nat → Int} {B : Int} : ∀ {k : Nat}, (∀ e, e < k → 0 ≤ f e ∧ f e ≤ B) → 0 ≤ sumN f k ∧ sumN f k ≤ k * B
  | 0, _ => by simp [sumN]
  | k + 1, h => by
    have ih := sumN_bd (k := k) fun e he => h e (by omega)
    have := h k (by omega)
    have e2 : ((k + 1 : Nat) : Int) * B = k * B + B := by rw [Int.natCast_add, Int.add_mul]; simp
    rw [sumN, e2]; omega
/-- The masks of events of `c`. -/
def subB (c : Int) (s : Nat) : Bool := ibits .andNot .i64 s c == 0
/-- The ways of the masks below `k`, and of `k` as far as the events below `e` tell. -/
def wL (x : StrucV) (c : Int) (hn : x.labels.length ≤ 16) (C k e : Nat) : List Int := (List.range (C + 1)).map fun (s : Nat) => if subB c s = true then (if s < k then bN x c hn s else if s = k then sumN (fun e => if lastS x s e = true then bN x c hn (dnS s e) else 0) e else 0) else 0
@[simp] theorem wL_length (x : StrucV) (c : Int) (hn : x.labels.length ≤ 16) (C k e : Nat) : (wL x c hn C k e).length = C + 1 := by simp [wL]
theorem wL_nth {x : StrucV} {c : Int} {hn : x.labels.length ≤ 16} {C k e s : Nat} (h : s < C + 1) : nth (wL x c hn C k e) s = if subB c s = true then (if s < k then bN x c hn s else if s = k then sumN (fun e => if lastS x s e = true then bN x c hn (dnS s e) else 0) e else 0) else 0 := by
  rw [nth_at (by simpa using h)]; simp [wL]
theorem wL_skip {x : StrucV} {c : Int} {hn : x.labels.length ≤ 16} {C k : Nat} (h : subB c k = false) : wL x c hn C k 0 = wL x c hn C (k + 1) 0 := by
  apply list_ext (by simp)
  intro s hs
  rw [wL_length] at hs
  rw [wL_nth hs, wL_nth hs]
  by_cases e1 : s = k
  · subst e1; simp [h]
  · by_cases e2 : s < k
    · rw [if_pos e2, if_pos (show s < k + 1 by omega)]
    · rw [if_neg e2, if_neg e1, if_neg (show ¬ s < k + 1 by omega)]
      by_cases e3 : s = k + 1
      · rw [if_pos e3]; simp [sumN]
      · rw [if_neg e3]
theorem wL_next {x : StrucV} {c : Int} {hn : x.labels.length ≤ 16} {C k : Nat} (hk : isM x.labels.length k = true) (h0 : k ≠ 0) : wL x c hn C k x.labels.length = wL x c hn C (k + 1) 0 := by
  apply list_ext (by simp)
  intro s hs
  rw [wL_length] at hs
  rw [wL_nth hs, wL_nth hs]
  by_cases e1 : s = k
  · subst e1
    rw [if_neg (show ¬ s < s by omega), if_pos rfl, if_pos (show s < s + 1 by omega), bN_step x c hn hk (by omega)]
  · by_cases e2 : s < k
    · rw [if_pos e2, if_pos (show s < k + 1 by omega)]
    · rw [if_neg e2, if_neg e1, if_neg (show ¬ s < k + 1 by omega)]
      by_cases e3 : s = k + 1
      · rw [if_pos e3]; simp [sumN]
      · rw [if_neg e3]
theorem wL_no {x : StrucV} {c : Int} {hn : x.labels.length ≤ 16} {C k e : Nat} (h : lastS x k e = false) : wL x c hn C k (e + 1) = wL x c hn C k e := by
  apply list_ext (by simp)
  intro s hs
  rw [wL_length] at hs
  rw [wL_nth hs, wL_nth hs]
  by_cases e1 : s = k
  · subst e1; rw [sumN]; simp [h]
  · simp [e1]
theorem wL_yes {x : StrucV} {c : Int} {hn : x.labels.length ≤ 16} {C k e d : Nat} (hk : k < C + 1) (hs : subB c k = true) (h : lastS x k e = true) (hd : dnS k e = d) (hdk : d < k) (hsd : subB c d = true) : (wL x c hn C k e).set k (nth (wL x c hn C k e) k + nth (wL x c hn C k e) d) = wL x c hn C k (e + 1) := by
  apply list_ext (by simp)
  intro s hs2
  simp only [List.length_set, wL_length] at hs2
  rw [nth_set _ (by simpa using hk) s (by simpa using hs2), wL_nth hs2, wL_nth hs2, wL_nth hk, wL_nth (show d < C + 1 by omega)]
  by_cases e1 : s = k
  · subst e1
    rw [if_pos rfl, if_pos hs, if_neg (show ¬ s < s by omega), if_pos rfl, if_pos hsd, if_pos hdk, if_pos hs, if_neg (show ¬ s < s by omega), if_pos rfl, sumN, if_pos h, hd]
  · rw [if_neg e1]; simp [e1]
def ordN (x : StrucV) (c : Int) : Int := if h : x.labels.length ≤ 16 then bN x c h c else 0
def countOrdersV (x : StrucV) (c : Int) : Int × Int := if maskCode x c = 0 then (ordN x c, 0) else (0, maskCode x c)
end Go.AM
