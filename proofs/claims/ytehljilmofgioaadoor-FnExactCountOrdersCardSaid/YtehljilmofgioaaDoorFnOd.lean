/-
  CountOrders, the reference's side.
-/
import Derived.Test.YtehljilmofgioaaDoorFnOc
set_option linter.unusedVariables false
set_option linter.unusedSimpArgs false
set_option maxRecDepth 100000
set_option maxHeartbeats 1600000
namespace Go.AM
open Go.Proofs
theorem up_dn {b : Int} (hb : M b) {e : Nat} (he : e < 63) (ht : tb b e = true) : upS (dnS b e) e = b := by
  apply tb_ext (up_M (dn_M hb he) he) hb
  intro i _
  rw [tb_up (dn_M hb he) he, tb_dn hb he]
  by_cases ei : e = i
  · subst ei; simp [ht]
  · simp [ei]
theorem dn_lt {b : Nat} (hb : M b) {e : Nat} (he : e < 63) (ht : tb b e = true) : ∃ d : Nat, dnS b e = d ∧ d < b := by
  have h1 := up_dn hb he ht
  have h2 : (dnS b e != b) = true := by rw [dn_ne hb he]; exact ht
  obtain ⟨d, hd, hl⟩ := M_nat (dn_M hb he)
  refine ⟨d, hd, ?_⟩
  have hp : 2 ^ e < 2 ^ 63 := Nat.pow_lt_pow_right (by omega) he
  rw [hd, upS, pow1_eq he, ib_or d (2 ^ e) hl hp] at h1
  have h3 : d ||| 2 ^ e = b := by omega
  have h4 : d ≤ d ||| 2 ^ e := Nat.left_le_or
  have h5 : d ≠ b := fun h => by rw [hd, h] at h2; simp at h2
  omega
theorem sumN_bd {f : Nat → Int} {B : Int} : ∀ {k : Nat}, (∀ e, e < k → 0 ≤ f e ∧ f e ≤ B) → 0 ≤ sumN f k ∧ sumN f k ≤ k * B
  | 0, _ => by simp [sumN]
  | k + 1, h => by
    have ih := sumN_bd (k := k) fun e he => h e (by omega)
    have := h k (by omega)
    have e2 : ((k + 1 : Nat) : Int) * B = k * B + B := by rw [Int.natCast_add, Int.add_mul]; simp
    rw [sumN, e2]; omega
/-- The masks of events of `c`. -/
def subB (c : Int) (s : Nat) : Bool := ibits .andNot .i64 s c == 0
/-- The ways of the masks below `k`, and of `k` as far as the events below `e` tell. -/
def wL (x : StrucV) (c : Int) (hn : x.labels.length ≤ 16) (C k e : Nat) : List Int := (List.range (C + 1)).map fun (s : Nat) => if subB c s = true then (if s < k then bN x c hn s else if s = k then sumN (fun e => if lastS x s e = true then bN x c hn (dnS s e) else 0) e else 0) else 0
@[simp] theorem wL_length (x : StrucV) (c : Int) (hn : x.labels.length ≤ 16) (C k e : Nat) : (wL x c hn C k e).length = C + 1 := by simp [wL]
theorem wL_nth {x : StrucV} {c : Int} {hn : x.labels.length ≤ 16} {C k e s : Nat} (h : s < C + 1) : nth (wL x c hn C k e) s = if subB c s = true then (if s < k then bN x c hn s else if s = k then sumN (fun e => if lastS x s e = true then bN x c hn (dnS s e) else 0) e else 0) else 0 := by
  rw [nth_at (by simpa using h)]; simp [wL]
theorem wL_skip {x : StrucV} {c : Int} {hn : x.labels.length ≤ 16} {C k : Nat} (h : subB c k = false) : wL x c hn C k 0 = wL x c hn C (k + 1) 0 := by
  apply list_ext (by simp)
  intro s hs
  rw [wL_length] at hs
  rw [wL_nth hs, wL_nth hs]
  by_cases e1 : s = k
  · subst e1; simp [h]
  · by_cases e2 : s < k
    · rw [if_pos e2, if_pos (show s < k + 1 by omega)]
    · rw [if_neg e2, if_neg e1, if_neg (show ¬ s < k + 1 by omega)]
      by_cases e3 : s = k + 1
      · rw [if_pos e3]; simp [sumN]
      · rw [if_neg e3]
theorem wL_next {x : StrucV} {c : Int} {hn : x.labels.length ≤ 16} {C k : Nat} (hk : isM x.labels.length k = true) (h0 : k ≠ 0) : wL x c hn C k x.labels.length = wL x c hn C (k + 1) 0 := by
  apply list_ext (by simp)
  intro s hs
  rw [wL_length] at hs
  rw [wL_nth hs, wL_nth hs]
  by_cases e1 : s = k
  · subst e1
    rw [if_neg (show ¬ s < s by omega), if_pos rfl, if_pos (show s < s + 1 by omega), bN_step x c hn hk (by omega)]
  · by_cases e2 : s < k
    · rw [if_pos e2, if_pos (show s < k + 1 by omega)]
    · rw [if_neg e2, if_neg e1, if_neg (show ¬ s < k + 1 by omega)]
      by_cases e3 : s = k + 1
      · rw [if_pos e3]; simp [sumN]
      · rw [if_neg e3]
theorem wL_no {x : StrucV} {c : Int} {hn : x.labels.length ≤ 16} {C k e : Nat} (h : lastS x k e = false) : wL x c hn C k (e + 1) = wL x c hn C k e := by
  apply list_ext (by simp)
  intro s hs
  rw [wL_length] at hs
  rw [wL_nth hs, wL_nth hs]
  by_cases e1 : s = k
  · subst e1; rw [sumN]; simp [h]
  · simp [e1]
theorem wL_yes {x : StrucV} {c : Int} {hn : x.labels.length ≤ 16} {C k e d : Nat} (hk : k < C + 1) (hs : subB c k = true) (h : lastS x k e = true) (hd : dnS k e = d) (hdk : d < k) (hsd : subB c d = true) : (wL x c hn C k e).set k (nth (wL x c hn C k e) k + nth (wL x c hn C k e) d) = wL x c hn C k (e + 1) := by
  apply list_ext (by simp)
  intro s hs2
  simp only [List.length_set, wL_length] at hs2
  rw [nth_set _ (by simpa using hk) s (by simpa using hs2), wL_nth hs2, wL_nth hs2, wL_nth hk, wL_nth (show d < C + 1 by omega)]
  by_cases e1 : s = k
  · subst e1
    rw [if_pos rfl, if_pos hs, if_neg (show ¬ s < s by omega), if_pos rfl, if_pos hsd, if_pos hdk, if_pos hs, if_neg (show ¬ s < s by omega), if_pos rfl, sumN, if_pos h, hd]
  · rw [if_neg e1]; simp [e1]
def ordN (x : StrucV) (c : Int) : Int := if h : x.labels.length ≤ 16 then bN x c h c else 0
def countOrdersV (x : StrucV) (c : Int) : Int × Int := if maskCode x c = 0 then (ordN x c, 0) else (0, maskCode x c)
theorem specCountOrders_spec (a0 a1 a2 : Bool) (x : StrucV) (hx : StructureOk x) (c : Int) (hc : I64 c) : ACalls1 Tryd.prog 15 [strucSl a0 a1 a2 x, iv c] (.tup [iv (countOrdersV x c).1, iv (countOrdersV x c).2]) := by
  refine walk (fun t => t == 2) mixed Go.Proofs.Tryd.func15 rfl rfl rfl (by kernel_rfl) rfl (by simp) (by kernel_rfl) ?_
  simp
  refine ⟨_, l16Mask_spec _ _ _ x hx c, ?_⟩
  unfold countOrdersV
  by_cases h : maskCode x c = 0
  · obtain ⟨hs, hb, hcf, _⟩ := maskCode_zero h
    obtain ⟨h1, h2, h3⟩ := struc_len hs
    have hlt := isM_lt h1 hb
    obtain ⟨hM, hbb⟩ := isM_spec (by omega) hb
    obtain ⟨C, rfl, hCl⟩ := M_nat hM
    have hord : ordN x (C : Int) = bN x (C : Int) h1 (C : Int) := by unfold ordN; rw [dif_pos h1]
    rw [Int.toNat_natCast] at hlt
    have hMn : ∀ s : Nat, s < 65536 → M (s : Int) := fun s hs => M_cast (by omega)
    have hsub : ∀ s : Nat, s < 65536 → subB (C : Int) s = true → isM x.labels.length s = true := fun s hs2 hsb => by
      refine isM_of (by omega) (hMn s hs2) fun i hi => ?_
      unfold subB at hsb
      rw [beq_iff_eq, eq_zero_iff (M_andNot (hMn s hs2) hM)] at hsb
      have := hsb i
      rw [tb_andNot (hMn s hs2) hM, hbb i hi] at this
      simpa using this
    have hsubself : subB (C : Int) C = true := by
      unfold subB
      rw [beq_iff_eq, eq_zero_iff (M_andNot hM hM)]
      intro i
      rw [tb_andNot hM hM]; cases tb (C : Int) i <;> rfl
    have hsubdn : ∀ s : Nat, s < 65536 → subB (C : Int) s = true → ∀ e, e < 63 → ∀ d : Nat, dnS s e = d → d < 65536 → subB (C : Int) d = true := fun s hs2 hsb e he d hd hdl => by
      unfold subB at hsb ⊢
      rw [beq_iff_eq, eq_zero_iff (M_andNot (hMn s hs2) hM)] at hsb
      rw [beq_iff_eq, eq_zero_iff (M_andNot (hMn d hdl) hM)]
      intro i
      have := hsb i
      rw [tb_andNot (hMn s hs2) hM] at this
      rw [tb_andNot (hMn d hdl) hM, ← hd, tb_dn (hMn s hs2) he]
      cases ht : tb (s : Int) i <;> simp_all
    have hw1 : IntKind.i64.wrap ((C : Int) + 1) = ((C + 1 : Nat) : Int) := by rw [wrap_id _ (by omega) (by omega)]; omega
    simp [h, hw1]
    repeat (refine And.intro (by omega) ?_)
    have hst : (List.replicate (C + 1) (0 : Int)).set 0 1 = wL x (C : Int) h1 C 1 0 := by
      apply list_ext (by simp)
      intro s hs2
      simp only [List.length_set, List.length_replicate] at hs2
      rw [nth_set _ (by simp) s (by simpa using hs2), wL_nth hs2]
      by_cases e1 : s = 0
      · subst e1
        have : subB (C : Int) 0 = true := by
          unfold subB
          rw [beq_iff_eq, eq_zero_iff (M_andNot (hMn 0 (by omega)) hM)]
          intro i; rw [tb_andNot (hMn 0 (by omega)) hM]; simp
        rw [if_pos rfl, if_pos this, if_pos (by omega)]
        exact (bN_zero x (C : Int) h1).symm
      · rw [if_neg e1, if_neg (show ¬ s < 1 by omega), nth_at (by simpa using hs2)]
        simp [sumN]
    have hst' : AV.val (.int .i64 1) :: (ints (List.replicate (C + 1) (0 : Int))).tail = ints (wL x (C : Int) h1 C 1 0) := by
      rw [← hst, List.replicate_succ]; rfl
    rw [hst']
    refine awp_loop2 [1, 2] [] (fun k : Nat => [(8, iv k), (7, .ref 100)]) (fun k => [(100, .own 1 true (ints (wL x (C : Int) h1 C k 0)))]) (fun k => 1 ≤ k ∧ k ≤ C + 1) (fun k => C + 1 - k) 1 (weak_mk (fun t => if t = 100 then some 19 else some t) (by simp) (by simp) rfl) (by omega) ?_
    rintro k ⟨hk0, hk⟩
    by_cases hkl : k ≤ C
    · cases hsb : subB (C : Int) k
      · have hne : ¬ ibits .andNot .i64 (k : Int) (C : Int) = 0 := by
          intro h4; unfold subB at hsb; rw [h4] at hsb; cases hsb
        simp [hkl, hne, wrap_id ((k : Int) + 1) (by omega) (by omega)]
        exact Round.mk (k + 1) (weak_mk some (by simp) (by simp [wL_skip hsb]) rfl) (by omega) (by omega)
      · have heq : ibits .andNot .i64 (k : Int) (C : Int) = 0 := by
          unfold subB at hsb; simpa using hsb
        have hkM := hMn k (by omega)
        simp [hkl, heq]
        refine awp_loop2 [1, 2, 8] [] (fun e : Nat => [(9, iv e), (7, .ref 100)]) (fun e => [(100, .own 1 true (ints (wL x (C : Int) h1 C k e)))]) (fun e => e ≤ x.labels.length) (fun e => x.labels.length - e) 0 (weak_mk some (by simp) (by simp) rfl) (by simp) ?_
        intro e he
        simp
        refine ⟨_, l16Size_spec _ _ _ x, ?_⟩
        by_cases hel : e < x.labels.length
        · simp [hel]
          refine ⟨_, l01One_spec e (by unfold I64; omega), ?_⟩
          have hdn := dn_ne hkM (show e < 63 by omega)
          have hdd : ibits .andNot .i64 (k : Int) (pow1 e) = dnS k e := rfl
          cases ht : tb (k : Int) e
          · rw [ht] at hdn
            have hde : dnS k e = k := by simpa using hdn
            have hno := wL_no (x := x) (c := (C : Int)) (hn := h1) (C := C) (k := k) (e := e) (by simp [lastS, hde])
            simp [hdd, hde, wrap_id ((e : Int) + 1) (by omega) (by omega)]
            exact Round.mk (e + 1) (weak_mk some (by simp) (by simp [hno]) rfl) hel (by omega)
          · rw [ht] at hdn
            obtain ⟨d, hd, hdk⟩ := dn_lt hkM (show e < 63 by omega) ht
            have hdne : ¬ (d : Int) = k := by omega
            by_cases hbl : ibits .andNot .i64 (nth x.below e) (dnS k e) = 0
            · have hl : lastS x k e = true := by simp only [lastS, hdn, hbl]; rfl
              have hyes := wL_yes (x := x) (c := (C : Int)) (hn := h1) (C := C) (show k < C + 1 by omega) hsb hl hd hdk (hsubdn k (by omega) hsb e (by omega) d hd (by omega))
              have v1 : 0 ≤ nth (wL x (C : Int) h1 C k e) k ∧ nth (wL x (C : Int) h1 C k e) k ≤ 1000000000000000 := by
                rw [wL_nth (show k < C + 1 by omega), if_pos hsb, if_neg (show ¬ k < k by omega), if_pos rfl]
                have hsum := sumN_bd (f := fun e => if lastS x k e = true then bN x (C : Int) h1 (dnS k e) else 0) (B := 20922789888000) (k := e) fun e he => by
                  by_cases hle : lastS x k e = true
                  · simp only [hle, if_true]
                    have ht2 : tb (k : Int) e = true := by
                      unfold lastS at hle
                      rw [dn_ne hkM (by omega)] at hle
                      simp only [Bool.and_eq_true] at hle
                      exact hle.1
                    obtain ⟨d2, hd2, hdk2⟩ := dn_lt hkM (show e < 63 by omega) ht2
                    rw [hd2]
                    exact bN_le x (C : Int) h1 (hsub d2 (by omega) (hsubdn k (by omega) hsb e (by omega) d2 hd2 (by omega)))
                  · simp only [hle]; simp
                omega
              have v2 : 0 ≤ nth (wL x (C : Int) h1 C k e) d ∧ nth (wL x (C : Int) h1 C k e) d ≤ 20922789888000 := by
                rw [wL_nth (by omega), if_pos (hsubdn k (by omega) hsb e (by omega) d hd (by omega)), if_pos hdk]
                exact bN_le x (C : Int) h1 (hsub d (by omega) (hsubdn k (by omega) hsb e (by omega) d hd (by omega)))
              have hwl := wL_length x (C : Int) h1 C k e
              rw [hd] at hbl
              generalize wL x (C : Int) h1 C k e = W at *
              have hw := wrap_id (nth W k + nth W d) (by omega) (by omega)
              simp [hdd, hd, hdne, hel, h2, hbl, hwl, show k < C + 1 by omega, show d < C + 1 by omega, show k + 1 ≤ C + 1 by omega, show d + 1 ≤ C + 1 by omega, show d ≤ C by omega, hw, ints_put, wrap_id ((e : Int) + 1) (by omega) (by omega)]
              repeat (rw [exE_eq]; simp [hdd, hd, hdne, hel, h2, hbl, hwl, show k < C + 1 by omega, show d < C + 1 by omega, show k + 1 ≤ C + 1 by omega, show d + 1 ≤ C + 1 by omega, hw, ints_put, wrap_id ((e : Int) + 1) (by omega) (by omega)])
              repeat (refine And.intro (by first | omega | exact ⟨by kernel_rfl, by kernel_rfl⟩) ?_)
              exact Round.mk (e + 1) (weak_mk some (by simp) (by simp [hyes]) rfl) hel (by omega)
            · have hno := wL_no (x := x) (c := (C : Int)) (hn := h1) (C := C) (k := k) (e := e) (by simp [lastS, hbl])
              rw [hd] at hbl
              simp [hdd, hd, hdne, hel, h2, hbl, wrap_id ((e : Int) + 1) (by omega) (by omega)]
              exact Round.mk (e + 1) (weak_mk some (by simp) (by simp [hno]) rfl) hel (by omega)
        · obtain rfl : e = x.labels.length := by omega
          simp [wrap_id ((k : Int) + 1) (by omega) (by omega)]
          exact Round.mk (k + 1) (weak_mk some (by simp) (by simp [wL_next (hsub k (by omega) hsb) (by omega)]) rfl) (by omega) (by omega)
    · obtain rfl : k = C + 1 := by omega
      have hend : nth (wL x (C : Int) h1 C (C + 1) 0) C = ordN x (C : Int) := by
        rw [wL_nth (by omega), if_pos hsubself, if_pos (by omega), hord]
      simp [hend, show ¬ ((C : Int) + 1 ≤ C) by omega]
  · simp [h]
end Go.AM
