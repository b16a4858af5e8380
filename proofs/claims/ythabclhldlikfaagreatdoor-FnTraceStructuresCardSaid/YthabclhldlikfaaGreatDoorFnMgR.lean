/-
  Several texts in one: FnPc FnOd FnOe FnOf FnPa FnP.
-/
import Derived.Test.YthabclhldlikfaaGreatDoorFnMgA
import Derived.Test.YthabclhldlikfaaGreatDoorFnNt
import Derived.Test.YthabclhldlikfaaGreatDoorFnMgH
import Derived.Test.YthabclhldlikfaaGreatDoorFnMgG
import Derived.Test.YthabclhldlikfaaGreatDoorFnN
import Derived.Test.YthabclhldlikfaaGreatDoorFnGc
set_option linter.unusedVariables false
set_option linter.unusedSimpArgs false
set_option linter.unusedSectionVars false
set_option maxRecDepth 100000
set_option maxHeartbeats 1600000
namespace Go.AM
open Go.Proofs
theorem popc_card : ∀ (k n : Nat), n < 2 ^ k → popc n = ((List.range k).filter fun i => n.testBit i).length
  | 0, n, h => by
    have : n = 0 := by simpa using h
    subst this; simp [popc_zero]
  | k + 1, n, h => by
    have ih := popc_card k (n / 2) (by rw [Nat.pow_succ] at h; omega)
    rw [popc_step, ih, List.range_succ_eq_map, List.filter_cons, List.filter_map]
    have e : (fun i => n.testBit i) ∘ Nat.succ = fun i => (n / 2).testBit i := by
      funext i; simp only [Function.comp, Nat.succ_eq_add_one, Nat.testBit_succ]
    rw [e]
    have e0 : n.testBit 0 = decide (n % 2 = 1) := Nat.testBit_zero n
    by_cases h2 : n % 2 = 1
    · rw [if_pos (by rw [e0]; simpa using h2), List.length_cons, List.length_map]; omega
    · rw [if_neg (by rw [e0]; simpa using h2), List.length_map]; omega
theorem up_dn {b : Int} (hb : M b) {e : Nat} (he : e < 63) (ht : tb b e = true) : upS (dnS b e) e = b := by
  apply tb_ext (up_M (dn_M hb he) he) hb
  intro i _
  rw [tb_up (dn_M hb he) he, tb_dn hb he]
  by_cases ei : e = i
  · subst ei; simp [ht]
  · simp [ei]
theorem dn_lt {b : Nat} (hb : M b) {e : Nat} (he : e < 63) (ht : tb b e = true) : ∃ d : Nat, dnS b e = d ∧ d < b := by
  have h1 := up_dn hb he ht
  have h2 : (dnS b e != b) = true := by rw [dn_ne hb he]; exact ht
  obtain ⟨d, hd, hl⟩ := M_nat (dn_M hb he)
  refine ⟨d, hd, ?_⟩
  have hp : 2 ^ e < 2 ^ 63 := Nat.pow_lt_pow_right (by omega) he
  rw [hd, upS, pow1_eq he, ib_or d (2 ^ e) hl hp] at h1
  have h3 : d ||| 2 ^ e = b := by omega
  have h4 : d ≤ d ||| 2 ^ e := Nat.left_le_or
  have h5 : d ≠ b := fun h => by rw [hd, h] at h2; simp at h2
  omega
theorem sumN_bd {f : Nat → Int} {B : Int} : ∀ {k : Nat}, (∀ e, e < k → 0 ≤ f e ∧ f e ≤ B) → 0 ≤ sumN f k ∧ sumN f k ≤ k * B
  | 0, _ => by simp [sumN]
  | k + 1, h => by
    have ih := sumN_bd (k := k) fun e he => h e (by omega)
    have := h k (by omega)
    have e2 : ((k + 1 : Nat) : Int) * B = k * B + B := by rw [Int.natCast_add, Int.add_mul]; simp
    rw [sumN, e2]; omega
/-- The masks of events of `c`. -/
def subB (c : Int) (s : Nat) : Bool := ibits .andNot .i64 s c == 0
/-- The ways of the masks below `k`, and of `k` as far as the events below `e` tell. -/
def wL (x : StrucV) (c : Int) (hn : x.labels.length ≤ 16) (C k e : Nat) : List Int := (List.range (C + 1)).map fun (s : Nat) => if subB c s = true then (if s < k then bN x c hn s else if s = k then sumN (fun e => if lastS x s e = true then bN x c hn (dnS s e) else 0) e else 0) else 0
@[simp] theorem wL_length (x : StrucV) (c : Int) (hn : x.labels.length ≤ 16) (C k e : Nat) : (wL x c hn C k e).length = C + 1 := by simp [wL]
theorem wL_nth {x : StrucV} {c : Int} {hn : x.labels.length ≤ 16} {C k e s : Nat} (h : s < C + 1) : nth (wL x c hn C k e) s = if subB c s = true then (if s < k then bN x c hn s else if s = k then sumN (fun e => if lastS x s e = true then bN x c hn (dnS s e) else 0) e else 0) else 0 := by
  rw [nth_at (by simpa using h)]; simp [wL]
theorem wL_skip {x : StrucV} {c : Int} {hn : x.labels.length ≤ 16} {C k : Nat} (h : subB c k = false) : wL x c hn C k 0 = wL x c hn C (k + 1) 0 := by
  apply list_ext (by simp)
  intro s hs
  rw [wL_length] at hs
  rw [wL_nth hs, wL_nth hs]
  by_cases e1 : s = k
  · subst e1; simp [h]
  · by_cases e2 : s < k
    · rw [if_pos e2, if_pos (show s < k + 1 by omega)]
    · rw [if_neg e2, if_neg e1, if_neg (show ¬ s < k + 1 by omega)]
      by_cases e3 : s = k + 1
      · rw [if_pos e3]; simp [sumN]
      · rw [if_neg e3]
theorem wL_next {x : StrucV} {c : Int} {hn : x.labels.length ≤ 16} {C k : Nat} (hk : isM x.labels.length k = true) (h0 : k ≠ 0) : wL x c hn C k x.labels.length = wL x c hn C (k + 1) 0 := by
  apply list_ext (by simp)
  intro s hs
  rw [wL_length] at hs
  rw [wL_nth hs, wL_nth hs]
  by_cases e1 : s = k
  · subst e1
    rw [if_neg (show ¬ s < s by omega), if_pos rfl, if_pos (show s < s + 1 by omega), bN_step x c hn hk (by omega)]
  · by_cases e2 : s < k
    · rw [if_pos e2, if_pos (show s < k + 1 by omega)]
    · rw [if_neg e2, if_neg e1, if_neg (show ¬ s < k + 1 by omega)]
      by_cases e3 : s = k + 1
      · rw [if_pos e3]; simp [sumN]
      · rw [if_neg e3]
theorem wL_no {x : StrucV} {c : Int} {hn : x.labels.length ≤ 16} {C k e : Nat} (h : lastS x k e = false) : wL x c hn C k (e + 1) = wL x c hn C k e := by
  apply list_ext (by simp)
  intro s hs
  rw [wL_length] at hs
  rw [wL_nth hs, wL_nth hs]
  by_cases e1 : s = k
  · subst e1; rw [sumN]; simp [h]
  · simp [e1]
theorem wL_yes {x : StrucV} {c : Int} {hn : x.labels.length ≤ 16} {C k e d : Nat} (hk : k < C + 1) (hs : subB c k = true) (h : lastS x k e = true) (hd : dnS k e = d) (hdk : d < k) (hsd : subB c d = true) : (wL x c hn C k e).set k (nth (wL x c hn C k e) k + nth (wL x c hn C k e) d) = wL x c hn C k (e + 1) := by
  apply list_ext (by simp)
  intro s hs2
  simp only [List.length_set, wL_length] at hs2
  rw [nth_set _ (by simpa using hk) s (by simpa using hs2), wL_nth hs2, wL_nth hs2, wL_nth hk, wL_nth (show d < C + 1 by omega)]
  by_cases e1 : s = k
  · subst e1
    rw [if_pos rfl, if_pos hs, if_neg (show ¬ s < s by omega), if_pos rfl, if_pos hsd, if_pos hdk, if_pos hs, if_neg (show ¬ s < s by omega), if_pos rfl, sumN, if_pos h, hd]
  · rw [if_neg e1]; simp [e1]
def ordN (x : StrucV) (c : Int) : Int := if h : x.labels.length ≤ 16 then bN x c h c else 0
def countOrdersV (x : StrucV) (c : Int) : Int × Int := if maskCode x c = 0 then (ordN x c, 0) else (0, maskCode x c)
theorem rem_zero {x : StrucV} {c d : Int} (hn : x.labels.length ≤ 16) (hc : isM x.labels.length c = true) (hd : inC x c d) (h : remN x.labels.length c d = 0) : d = c := by
  obtain ⟨hMc, hbc⟩ := isM_spec (by omega) hc
  obtain ⟨hMd, hbd⟩ := isM_spec (by omega) hd.1
  apply tb_ext hMd hMc
  intro i _
  rw [Bool.eq_iff_iff]
  constructor
  · exact hd.2 i
  · intro ht
    unfold remN at h
    rw [List.length_eq_zero_iff, List.filter_eq_nil_iff] at h
    by_cases hi : i < x.labels.length
    · have := h i (List.mem_range.2 hi)
      simp only [Bool.and_eq_true, Bool.not_eq_true', not_and, Bool.not_eq_false] at this
      exact this ht
    · rw [hbc i (by omega)] at ht; cases ht
theorem up_inC {x : StrucV} {c d : Int} (hn : x.labels.length ≤ 16) (hd : inC x c d) {e : Nat} (he : e < x.labels.length) (h : canS x c d e = true) : inC x c (upS d e) ∧ remN x.labels.length c (upS d e) + 1 = remN x.labels.length c d := by
  refine ⟨(stepsOf x c hn).Dup d e he hd h, ?_⟩
  obtain ⟨hMd, hbd⟩ := isM_spec (by omega) hd.1
  unfold canS at h
  simp only [Bool.and_eq_true, Bool.not_eq_true'] at h
  exact card_up hn hMd he h.1.1 h.1.2
theorem fN_step {x : StrucV} {c d : Int} (hn : x.labels.length ≤ 16) (hc : isM x.labels.length c = true) (hd : inC x c d) (hne : d ≠ c) : fN x c hn d = sumN (fun e => if canS x c d e = true then fN x c hn (upS d e) else 0) x.labels.length := by
  obtain ⟨k, hk⟩ : ∃ k, remN x.labels.length c d = k + 1 := ⟨remN x.labels.length c d - 1, by
    have : remN x.labels.length c d ≠ 0 := fun h => hne (rem_zero hn hc hd h)
    omega⟩
  unfold fN
  rw [hk, pf]
  refine sumN_congr fun e he => ?_
  show (if canS x c d e = true then pf (stepsOf x c hn) k (upS d e) c else 0) = _
  by_cases h : canS x c d e = true
  · rw [if_pos h, if_pos h]
    have := (up_inC hn hd he h).2
    rw [show remN x.labels.length c (upS d e) = k by omega]
  · rw [if_neg h, if_neg h]
theorem filter_len_le {p q : Nat → Bool} (h : ∀ i, p i = true → q i = true) : ∀ l : List Nat, (l.filter p).length ≤ (l.filter q).length
  | [] => Nat.le_refl _
  | a :: l => by
    have ih := filter_len_le h l
    rw [List.filter_cons, List.filter_cons]
    cases hp : p a
    · cases hq : q a <;> simp <;> omega
    · rw [h a hp]; simpa using ih
theorem fN_bound {x : StrucV} {c : Int} (hn : x.labels.length ≤ 16) (hc : isM x.labels.length c = true) : ∀ (k : Nat) (d : Int), remN x.labels.length c d = k → inC x c d → 0 ≤ fN x c hn d ∧ fN x c hn d ≤ facN k
  | 0, d, hk, hd => by
    have := rem_zero hn hc hd hk
    subst this
    rw [fN_end]
    exact ⟨by omega, Int.le_refl _⟩
  | k + 1, d, hk, hd => by
    have hne : d ≠ c := fun h => by
      subst h
      have : remN x.labels.length d d = 0 := by
        unfold remN
        rw [List.length_eq_zero_iff, List.filter_eq_nil_iff]
        intro i _; cases tb d i <;> simp
      omega
    have hup : ∀ e, e < x.labels.length → canS x c d e = true → 0 ≤ fN x c hn (upS d e) ∧ fN x c hn (upS d e) ≤ facN k := fun e he h => by
      obtain ⟨h1, h2⟩ := up_inC hn hd he h
      exact fN_bound hn hc k (upS d e) (by omega) h1
    rw [fN_step hn hc hd hne]
    refine ⟨sumN_nonneg fun e he => ?_, ?_⟩
    · by_cases h : canS x c d e = true
      · rw [if_pos h]; exact (hup e he h).1
      · rw [if_neg h]; omega
    · have h1 := sumN_le (f := fun e => if canS x c d e = true then fN x c hn (upS d e) else 0) (p := fun e => canS x c d e) (B := facN k) (k := x.labels.length)
        (fun e he ht => by simp only [ht, if_true]; exact (hup e he ht).2)
        (fun e he ht => by simp only [ht]; simp)
      have h2 : ((List.range x.labels.length).filter fun e => canS x c d e).length ≤ k + 1 := by
        rw [← hk]
        exact filter_len_le (fun i h => by
          unfold canS at h
          simp only [Bool.and_eq_true] at h
          simp [h.1.1]; simpa using h.1.2) _
      have h3 := facN_pos k
      have h4 : (((List.range x.labels.length).filter fun e => canS x c d e).length : Int) * facN k ≤ ((k : Int) + 1) * facN k := Int.mul_le_mul_of_nonneg_right (by omega) (by omega)
      rw [facN]; omega
theorem fN_le {x : StrucV} {c d : Int} (hn : x.labels.length ≤ 16) (hc : isM x.labels.length c = true) (hd : inC x c d) : 0 ≤ fN x c hn d ∧ fN x c hn d ≤ 20922789888000 := by
  have h := fN_bound hn hc _ d rfl hd
  have hl : remN x.labels.length c d ≤ 16 := by
    have := List.length_filter_le (fun i => tb c i && !tb d i) (List.range x.labels.length)
    rw [List.length_range] at this
    unfold remN; omega
  have := fac16 hl
  omega
/-- Sums over lists. -/
def sumL (f : Nat → Int) (l : List Nat) : Int := l.foldl (fun s e => s + f e) 0
theorem sumL_snoc (f : Nat → Int) (l : List Nat) (e : Nat) : sumL f (l ++ [e]) = sumL f l + f e := by simp [sumL, List.foldl_append]
theorem sumL_filter (f : Nat → Int) (p : Nat → Bool) : ∀ k, sumL f ((List.range k).filter p) = sumN (fun e => if p e = true then f e else 0) k
  | 0 => rfl
  | k + 1 => by
    rw [List.range_succ, List.filter_append, sumN, ← sumL_filter f p k]
    cases hp : p k
    · simp [hp]
    · simp only [List.filter_cons, hp, if_true, List.filter_nil]
      rw [sumL_snoc]
theorem fN_sum {x : StrucV} {c d : Int} (hn : x.labels.length ≤ 16) (hc : isM x.labels.length c = true) (hd : inC x c d) (hne : d ≠ c) : fN x c hn d = sumL (fun e => fN x c hn (upS d e)) (candL x c d) := by
  rw [fN_step hn hc hd hne, candL, sumL_filter]
theorem sumL_bd {f : Nat → Int} {B : Int} : ∀ (l : List Nat), (∀ e ∈ l, 0 ≤ f e ∧ f e ≤ B) → ∀ j, j ≤ l.length → 0 ≤ sumL f (l.take j) ∧ sumL f (l.take j) ≤ j * B
  | l, h, 0, _ => by simp [sumL]
  | l, h, j + 1, hj => by
    have ih := sumL_bd l h j (by omega)
    have hl : j < l.length := by omega
    rw [List.take_succ_eq_append_getElem hl, sumL_snoc]
    have := h l[j] (List.getElem_mem hl)
    have e2 : ((j + 1 : Nat) : Int) * B = j * B + B := by rw [Int.natCast_add, Int.add_mul]; simp
    rw [e2]; omega
/-- Entries that tell the truth. -/
def MapOk (x : StrucV) (c : Int) (hn : x.labels.length ≤ 16) (m : List (Int × Value)) : Prop := ∀ d v, m.lookup d = some v → inC x c d → v = .int .i64 (fN x c hn d)
theorem MapOk_nil (x : StrucV) (c : Int) (hn : x.labels.length ≤ 16) : MapOk x c hn [] := fun d v h => by simp at h
theorem MapOk_put {x : StrucV} {c : Int} {hn : x.labels.length ≤ 16} {m : List (Int × Value)} (h : MapOk x c hn m) (d : Int) : MapOk x c hn (putI d (.int .i64 (fN x c hn d)) m) := by
  intro y v hv hy
  rw [lookup_putI] at hv
  by_cases e : y = d
  · subst e; rw [if_pos rfl] at hv; simpa using hv.symm
  · rw [if_neg e] at hv; exact h y v hv hy
theorem countOrders_spec (a0 a1 a2 : Bool) (x : StrucV) (hs : isStructureV x = true) (hn : x.labels.length ≤ 16) (c : Int) (hc : isM x.labels.length c = true) : ∀ (k : Nat) (d : Int), remN x.labels.length c d = k → inC x c d → ∀ m, MapOk x c hn m → ∃ m', MapOk x c hn m' ∧ ACalls2 Tryz.prog 116 [strucSl a0 a1 a2 x, iv c, iv d, .mp (mI m)] [strucSl a0 a1 a2 x, iv c, iv d, .mp (mI m')] (iv (fN x c hn d)) := by
  intro k
  induction k using Nat.strongRecOn with
  | _ k ih =>
    intro d hk hd m hm
    by_cases hdc : c = d
    · subst hdc
      refine ⟨m, hm, ?_⟩
      refine walkO (fun t => t == 4) mixed Go.Proofs.Tryz.func116 rfl rfl rfl (by kernel_rfl) (by simp) (by simp) (by simp) (by kernel_rfl) ?_
      simp [fN_end]
    · cases hl : m.lookup d with
      | some v =>
        have hv := hm d v hl hd
        subst hv
        refine ⟨m, hm, ?_⟩
        refine walkO (fun t => t == 4) mixed Go.Proofs.Tryz.func116 rfl rfl rfl (by kernel_rfl) (by simp) (by simp) (by simp) (by kernel_rfl) ?_
        simp [hdc, hl]
      | none =>
        have hmem : ∀ e, e ∈ candL x c d → e < x.labels.length ∧ canS x c d e = true := fun e he => by
          unfold candL at he
          rw [List.mem_filter, List.mem_range] at he
          exact he
        have hstep : ∀ e, e ∈ candL x c d → ∀ m, MapOk x c hn m → ∃ m', MapOk x c hn m' ∧ ACalls2 Tryz.prog 116 [strucSl a0 a1 a2 x, iv c, iv (upS d e), .mp (mI m)] [strucSl a0 a1 a2 x, iv c, iv (upS d e), .mp (mI m')] (iv (fN x c hn (upS d e))) := fun e he m hm => by
          obtain ⟨h1, h2⟩ := up_inC hn hd (hmem e he).1 (hmem e he).2
          exact ih (remN x.labels.length c (upS d e)) (by omega) (upS d e) rfl h1 m hm
        obtain ⟨nx, hnx⟩ : ∃ nx : Nat → List (Int × Value) → List (Int × Value), ∀ e, e ∈ candL x c d → ∀ m, MapOk x c hn m → MapOk x c hn (nx e m) ∧ ACalls2 Tryz.prog 116 [strucSl a0 a1 a2 x, iv c, iv (upS d e), .mp (mI m)] [strucSl a0 a1 a2 x, iv c, iv (upS d e), .mp (mI (nx e m))] (iv (fN x c hn (upS d e))) := by
          classical
          refine ⟨fun e m => if h : e ∈ candL x c d ∧ MapOk x c hn m then Classical.choose (hstep e h.1 m h.2) else m, fun e he m hm => ?_⟩
          simp only [dif_pos (show e ∈ candL x c d ∧ MapOk x c hn m from ⟨he, hm⟩)]
          exact Classical.choose_spec (hstep e he m hm)
        have hM : ∀ j, j ≤ (candL x c d).length → MapOk x c hn (((candL x c d).take j).foldl (fun m e => nx e m) m) := by
          intro j
          induction j with
          | zero => intro _; simpa using hm
          | succ j ihj =>
            intro hj
            rw [foldl_take_succ _ _ _ _ (show j < (candL x c d).length by omega)]
            exact (hnx _ (List.getElem_mem _) _ (ihj (by omega))).1
        have hMs : ∀ j (h : j < (candL x c d).length), ((candL x c d).take (j + 1)).foldl (fun m e => nx e m) m = nx (candL x c d)[j] (((candL x c d).take j).foldl (fun m e => nx e m) m) := fun j h => foldl_take_succ _ _ _ _ h
        have hfs := fN_sum hn hc hd (fun h => hdc h.symm)
        have hSb := fun j hj => sumL_bd (f := fun e => fN x c hn (upS d e)) (B := 20922789888000) (candL x c d) (fun e he => fN_le hn hc (up_inC hn hd (hmem e he).1 (hmem e he).2).1) j hj
        have hSs : ∀ j (h : j < (candL x c d).length), sumL (fun e => fN x c hn (upS d e)) ((candL x c d).take (j + 1)) = sumL (fun e => fN x c hn (upS d e)) ((candL x c d).take j) + fN x c hn (upS d (candL x c d)[j]) := fun j h => by
          rw [List.take_succ_eq_append_getElem h, sumL_snoc]
        have hCl := candL_length x c d
        have hrv : (readyV x c d).length = (candL x c d).length := by simp [readyV]
        have hrn : ∀ j (h : j < (candL x c d).length), nth (readyV x c d) j = ((candL x c d)[j] : Nat) := fun j h => by
          rw [nth_at (by omega)]; simp [readyV]
        have hfb := fun e he => fN_le hn hc (up_inC hn hd (hmem e he).1 (hmem e he).2).1
        refine ⟨putI d (.int .i64 (fN x c hn d)) ((candL x c d).foldl (fun m e => nx e m) m), MapOk_put (by have := hM (candL x c d).length (Nat.le_refl _); rwa [List.take_length] at this) d, ?_⟩
        refine walkO (fun t => t == 4 || t == 1034 || t == 2042) mixed Go.Proofs.Tryz.func116 rfl rfl rfl (by kernel_rfl) (by simp) (by simp) (by simp) (by kernel_rfl) ?_
        simp [hdc, hl]
        refine ⟨_, ready_spec a0 a1 a2 x hs c d hc hd.1, ?_⟩
        simp [hrv]
        refine awp_loop2 [1, 2, 3, 4, 28, 29] [28] (fun j : Nat => [(30, iv j), (11, iv (sumL (fun e => fN x c hn (upS d e)) ((candL x c d).take j)))]) (fun j => [(1000000003, .mp (mI (((candL x c d).take j).foldl (fun m e => nx e m) m)))]) (fun j => j ≤ (candL x c d).length) (fun j => (candL x c d).length - j) 0 (weak_mk some (by simp [sumL]) (by simp) rfl) (by simp) ?_
        intro j hj
        by_cases hjl : j < (candL x c d).length
        · have hb := hSb j hj
          have hcall := (hnx _ (List.getElem_mem hjl) _ (hM j hj)).2
          have hrj := hrn j hjl
          have hss := hSs j hjl
          have hms := hMs j hjl
          have hfe := hfb _ (List.getElem_mem hjl)
          generalize hE : (candL x c d)[j] = e at *
          have heu : ibits .or .i64 d (pow1 e) = upS d e := rfl
          simp [hjl, hrv, hrj, show j + 1 ≤ (candL x c d).length from hjl]
          repeat (rw [exE_eq]; simp [hjl, hrv, hrj, show j + 1 ≤ (candL x c d).length from hjl])
          refine ⟨_, one_spec e (by omega), ?_⟩
          simp [heu]
          refine ⟨_, _, hcall, ?_⟩
          simp [wrap_id ((j : Int) + 1) (by omega) (by omega)]
          repeat (refine And.intro (by first | omega | exact ⟨by kernel_rfl, by kernel_rfl⟩) ?_)
          exact Round.mk (j + 1) (weak_mk some (by simp [hss]; exact wrap_id _ (by omega) (by omega)) (by simp [hms]) rfl) hjl (by omega)
        · obtain rfl : j = (candL x c d).length := by omega
          rw [List.take_length, ← hfs]
          simp [hrv]
theorem CountOrders_spec (a0 a1 a2 : Bool) (x : StrucV) (hx : StructureOk x) (c : Int) (hc : I64 c) : ACalls1 Tryz.prog 47 [strucSl a0 a1 a2 x, iv c] (.tup [iv (countOrdersV x c).1, iv (countOrdersV x c).2]) := by
  refine walk (fun t => t == 2 || t == 2016) mixed Go.Proofs.Tryz.func47 rfl rfl rfl (by kernel_rfl) rfl (by simp) (by kernel_rfl) ?_
  simp
  refine ⟨_, checkConfiguration_spec _ _ _ x hx c, ?_⟩
  unfold countOrdersV
  by_cases h : maskCode x c = 0
  · obtain ⟨hs, hb, hcf, _⟩ := maskCode_zero h
    obtain ⟨h1, h2, h3⟩ := struc_len hs
    obtain ⟨m', _, hcall⟩ := countOrders_spec a0 a1 a2 x hs h1 c hb _ 0 rfl ⟨isM_of (by omega) M_zero (fun i _ => by simp), fun i hi => by simp at hi⟩ [] (MapOk_nil x c h1)
    rw [fN_start x c h1 hb] at hcall
    have hord : ordN x c = bN x c h1 c := by unfold ordN; rw [dif_pos h1]
    rw [mI_nil] at hcall
    simp [h]
    refine ⟨_, _, hcall, ?_⟩
    simp [hord]
  · simp [h]
theorem popc_cardN {n : Nat} (hn : n ≤ 24) {c : Int} (h : isM n c = true) : popc c.toNat = cardN n c := by
  obtain ⟨hM, hb⟩ := isM_spec (by omega) h
  unfold isM at h
  simp only [Bool.and_eq_true, decide_eq_true_eq] at h
  rw [full_eq (by omega)] at h
  have h2 := Nat.two_pow_pos n
  exact popc_card n c.toNat (by omega)
theorem filter_lt {p q : Nat → Bool} (h : ∀ i, p i = true → q i = true) {j n : Nat} (hj : j < n) (hq : q j = true) (hp : p j = false) : ((List.range n).filter p).length < ((List.range n).filter q).length := by
  have h1 := card_off (p := q) (q := fun i => q i && i != j) (e := j) hq (by simp) (fun i hi => by simp [hi]) n
  rw [if_pos hj] at h1
  have h2 := filter_len_le (p := p) (q := fun i => q i && i != j) (fun i hi => by
    simp only [Bool.and_eq_true, bne_iff_ne]
    exact ⟨h i hi, fun e => by subst e; rw [hi] at hp; cases hp⟩) (List.range n)
  omega
theorem cand_min {x : StrucV} (hs : isStructureV x = true) {c s : Int} (hc : isM x.labels.length c = true) (hcf : isConf x c = true) (hin : inC x c s) : ∀ (k e : Nat), cardN x.labels.length (nth x.below e) = k → e < x.labels.length → tb c e = true → tb s e = false → candL x c s ≠ [] := by
  obtain ⟨h1, h2, h3⟩ := struc_len hs
  obtain ⟨hMs, hbs⟩ := isM_spec (by omega) hin.1
  obtain ⟨hMc, hbc⟩ := isM_spec (by omega) hc
  intro k
  induction k using Nat.strongRecOn with
  | _ k ih =>
    intro e hk he htc hts
    obtain ⟨mb, mc, bb, bc, _, _⟩ := struc_M hs he
    by_cases hz : ibits .andNot .i64 (nth x.below e) s = 0
    · have hmem : e ∈ candL x c s := by
        unfold candL canS
        simp [he, htc, hts, hz]
      intro h; rw [h] at hmem; cases hmem
    · rw [eq_zero_iff (M_andNot mb hMs)] at hz
      obtain ⟨f, hf⟩ := Classical.not_forall.1 hz
      rw [tb_andNot mb hMs] at hf
      have hf' : tb (nth x.below e) f = true ∧ tb s f = false := by
        cases h5 : tb (nth x.below e) f <;> cases h6 : tb s f <;> simp [h5, h6] at hf ⊢
      have hfn : f < x.labels.length := Nat.lt_of_not_le fun h => by rw [bb f h] at hf'; cases hf'.1
      obtain ⟨mbf, _, bbf, _, _, _⟩ := struc_M hs hfn
      have hcfg := isConf_iff.1 hcf e he htc
      unfold cfgOk at hcfg
      simp only [Bool.and_eq_true, beq_iff_eq] at hcfg
      have hcf2 : tb c f = true := by
        have := (eq_zero_iff (M_andNot mb hMc)).1 hcfg.1 f
        rw [tb_andNot mb hMc, hf'.1] at this
        simpa using this
      have hp := (isStruc_iff.1 hs).2.2.2.2 e he f hfn
      unfold pairOk sub2 at hp
      rw [hf'.1] at hp
      simp only [Bool.and_eq_true, Bool.not_true, Bool.false_or, beq_iff_eq] at hp
      have hsub := (eq_zero_iff (M_andNot mbf mb)).1 hp.1.1
      have hev := (isStruc_iff.1 hs).2.2.2.1 f hfn
      unfold evOk at hev
      simp only [Bool.and_eq_true, Bool.not_eq_true'] at hev
      have hlt := filter_lt (p := fun i => tb (nth x.below f) i) (q := fun i => tb (nth x.below e) i) (fun i hi => by
        have := hsub i
        rw [tb_andNot mbf mb, hi] at this
        simpa using this) hfn hf'.1 hev.1.2
      exact ih (cardN x.labels.length (nth x.below f)) (by unfold cardN at hk ⊢; omega) f rfl hfn hcf2 hf'.2
theorem cand_ex {x : StrucV} (hs : isStructureV x = true) {c s : Int} (hc : isM x.labels.length c = true) (hcf : isConf x c = true) (hin : inC x c s) (h : remN x.labels.length c s ≠ 0) : candL x c s ≠ [] := by
  unfold remN at h
  obtain ⟨e, he⟩ := List.exists_mem_of_ne_nil _ (fun h2 : (List.range x.labels.length).filter (fun i => tb c i && !tb s i) = [] => h (by rw [h2]; rfl))
  simp only [List.mem_filter, List.mem_range, Bool.and_eq_true, Bool.not_eq_true'] at he
  exact cand_min hs hc hcf hin _ e rfl he.1 he.2.1 he.2.2
/-- Parts of `c` that lack `r` of its events. -/
def lvOk (x : StrucV) (c : Int) (r : Nat) (l : List Int) : Prop := l ≠ [] ∧ ∀ s ∈ l, inC x c s ∧ remN x.labels.length c s = r
def stOk (x : StrucV) (c : Int) (r : Nat) (st : Int × List Int) : Prop := (∃ e, e < x.labels.length ∧ st.1 = nth x.labels e) ∧ lvOk x c r st.2
theorem stepC_st {x : StrucV} (hs : isStructureV x = true) {c s : Int} {r : Nat} (hin : inC x c s) (hr : remN x.labels.length c s = r + 1) {e : Nat} (he : e ∈ candL x c s) {st : Int × List Int} (h : st = (8, []) ∨ stOk x c r st) : stOk x c r (stepC x s st e) := by
  obtain ⟨h1, h2, h3⟩ := struc_len hs
  have hm : e < x.labels.length ∧ canS x c s e = true := by
    unfold candL at he
    rw [List.mem_filter, List.mem_range] at he
    exact he
  obtain ⟨u1, u2⟩ := up_inC h1 hin hm.1 hm.2
  have hu : inC x c (ibits .or .i64 s (pow1 e)) ∧ remN x.labels.length c (ibits .or .i64 s (pow1 e)) = r := by
    refine ⟨u1, ?_⟩
    have : remN x.labels.length c (upS s e) + 1 = r + 1 := by rw [u2, hr]
    exact Nat.succ.inj this
  have hlab := struc_lab hs _ (nth_mem hm.1)
  unfold stepC
  split
  · exact ⟨⟨e, hm.1, rfl⟩, by simp, fun y hy => by simp at hy; rw [hy]; exact hu⟩
  · rename_i hnl
    rcases h with rfl | h
    · simp only at hnl; omega
    · split
      · split
        · exact h
        · refine ⟨⟨e, hm.1, ?_⟩, by simp, fun y hy => ?_⟩
          · rename_i e1 _; exact e1.symm
          · simp only [List.mem_append, List.mem_singleton] at hy
            rcases hy with hy | rfl
            · exact h.2.2 y hy
            · exact hu
      · exact h
theorem foldC_st {x : StrucV} (hs : isStructureV x = true) {c s : Int} {r : Nat} (hin : inC x c s) (hr : remN x.labels.length c s = r + 1) : ∀ (l : List Nat) {st : Int × List Int}, (∀ e ∈ l, e ∈ candL x c s) → (st = (8, []) ∨ stOk x c r st) → (l ≠ [] ∨ stOk x c r st) → stOk x c r (l.foldl (stepC x s) st)
  | [], st, _, _, h => by rcases h with h | h; exact absurd rfl h; exact h
  | e :: l, st, hl, h, _ => by
    have h' := stepC_st hs hin hr (hl e (by simp)) h
    exact foldC_st hs hin hr l (fun f hf => hl f (by simp [hf])) (.inr h') (.inr h')
theorem scanC_st {x : StrucV} (hs : isStructureV x = true) {c s : Int} (hc : isM x.labels.length c = true) (hcf : isConf x c = true) {r : Nat} (hin : inC x c s) (hr : remN x.labels.length c s = r + 1) {st : Int × List Int} (h : st = (8, []) ∨ stOk x c r st) : stOk x c r (scanC x c st s) :=
  foldC_st hs hin hr _ (fun e he => he) h (.inl (cand_ex hs hc hcf hin (by omega)))
theorem scans_st {x : StrucV} (hs : isStructureV x = true) {c : Int} (hc : isM x.labels.length c = true) (hcf : isConf x c = true) {r : Nat} : ∀ (l : List Int) {st : Int × List Int}, (∀ s ∈ l, inC x c s ∧ remN x.labels.length c s = r + 1) → (st = (8, []) ∨ stOk x c r st) → (l ≠ [] ∨ stOk x c r st) → stOk x c r (l.foldl (scanC x c) st)
  | [], st, _, _, h => by rcases h with h | h; exact absurd rfl h; exact h
  | s :: l, st, hl, h, _ => by
    have h' := scanC_st hs hc hcf (hl s (by simp)).1 (hl s (by simp)).2 h
    exact scans_st hs hc hcf l (fun f hf => hl f (by simp [hf])) (.inr h') (.inr h')
theorem wordS_st {x : StrucV} (hs : isStructureV x = true) {c : Int} (hc : isM x.labels.length c = true) (hcf : isConf x c = true) : ∀ k, k ≤ popc c.toNat → lvOk x c (popc c.toNat - k) (wordS x c k).2 ∧ ∀ y ∈ (wordS x c k).1, ∃ e, e < x.labels.length ∧ y = nth x.labels e
  | 0, _ => by
    obtain ⟨h1, h2, h3⟩ := struc_len hs
    refine ⟨⟨by simp [wordS], fun s h => ?_⟩, fun y hy => by simp [wordS] at hy⟩
    simp only [wordS, List.mem_singleton] at h
    subst h
    refine ⟨⟨isM_of (by omega) M_zero (fun i _ => by simp), fun i hi => by simp at hi⟩, ?_⟩
    rw [popc_cardN (by omega) hc]
    unfold remN cardN; simp
  | k + 1, hk => by
    obtain ⟨⟨ih1, ih2⟩, ih3⟩ := wordS_st hs hc hcf k (by omega)
    have h := scans_st hs hc hcf (r := popc c.toNat - (k + 1)) (wordS x c k).2 (st := (8, [])) (fun s h => ⟨(ih2 s h).1, by rw [(ih2 s h).2]; omega⟩) (.inl rfl) (.inl ih1)
    refine ⟨h.2, fun y hy => ?_⟩
    simp only [wordS, List.mem_append, List.mem_singleton] at hy
    rcases hy with hy | rfl
    · exact ih3 y hy
    · exact h.1
theorem wordC_lab {x : StrucV} (hs : isStructureV x = true) {c : Int} (hc : isM x.labels.length c = true) (hcf : isConf x c = true) : ∀ y ∈ wordC x c, ∃ e, e < x.labels.length ∧ y = nth x.labels e :=
  (wordS_st hs hc hcf _ (Nat.le_refl _)).2
def labOk (x : AlphaV) (s : StrucV) : Bool := s.labels.all fun y => decide (0 ≤ y) && decide (y ≤ x.letters - 1)
/-- The letters of the word. -/
def wordN (s : StrucV) (c : Int) : List Nat := (wordC s c).map Int.toNat
def traceOfConfigurationV (x : AlphaV) (s : StrucV) (c : Int) : List Int × Int :=
  if isAlphaV x = true then (if isStructureV s = true then (if isM s.labels.length c = true then (if labOk x s = true then (if isConf s c = true then (nats (nf x.depends (wordN s c)), 0) else ([], 5)) else ([], 2)) else ([], 2)) else ([], 1)) else ([], 1)
theorem wordN_nats {s : StrucV} (hs : isStructureV s = true) (c : Int) : nats (wordN s c) = wordC s c := by
  unfold nats wordN
  rw [List.map_map]
  have : ∀ l : List Int, (∀ y ∈ l, 0 ≤ y) → l.map ((fun (e : Nat) => (e : Int)) ∘ Int.toNat) = l := by
    intro l
    induction l with
    | nil => intro _; rfl
    | cons y l ih =>
      intro h
      rw [List.map_cons, ih (fun z hz => h z (by simp [hz]))]
      have := h y (by simp)
      simp only [Function.comp, Int.toNat_of_nonneg this]
  refine this _ fun y hy => ?_
  exact (wordS_lab (struc_lab hs) (popc c.toNat) y hy).1
theorem wordN_ok {x : AlphaV} (hx : AlOk x) {s : StrucV} (hs : isStructureV s = true) (hlab : labOk x s = true) {c : Int} (hc : isM s.labels.length c = true) (hcf : isConf s c = true) : WOk x.depends.length (wordN s c) := by
  obtain ⟨h1, h2, h3⟩ := struc_len hs
  refine ⟨?_, fun a ha => ?_⟩
  · have := wordC_length s c
    have := isM_lt h1 hc
    unfold wordN; rw [List.length_map]; omega
  · obtain ⟨y, hy, rfl⟩ := List.mem_map.1 ha
    obtain ⟨e, he, rfl⟩ := wordC_lab hs hc hcf y hy
    unfold labOk at hlab
    rw [List.all_eq_true] at hlab
    have := hlab _ (nth_mem he)
    simp only [Bool.and_eq_true, decide_eq_true_eq] at this
    have := hx.let_
    omega
theorem labLt_eq {s : StrucV} (hs : isStructureV s = true) (x : AlphaV) : (s.labels.all fun y => decide (y < x.letters)) = labOk x s := by
  rw [Bool.eq_iff_iff, labOk, List.all_eq_true, List.all_eq_true]
  constructor
  · intro h y hy
    have h1 := h y hy
    have h2 := struc_lab hs y hy
    simp only [Bool.and_eq_true, decide_eq_true_eq] at h1 ⊢; omega
  · intro h y hy
    have h1 := h y hy
    simp only [Bool.and_eq_true, decide_eq_true_eq] at h1 ⊢; omega
theorem tok_of {x : AlphaV} (hx : AlOk x) : TOk x.depends := ⟨by have := hx.len; omega, fun a ha => (alOk_M hx ha).1⟩
theorem TraceOfConfiguration_spec (b0 : Bool) (x : AlphaV) (hx : AlphabetOk x) (a0 a1 a2 : Bool) (s : StrucV) (hs : StructureOk s) (c : Int) (hc : I64 c) : ACalls1 Tryz.prog 29 [alphaSl b0 x, strucSl a0 a1 a2 s, iv c] (.tup [.own 1 false (ints (traceOfConfigurationV x s c).1), iv (traceOfConfigurationV x s c).2]) := by
  refine walk (fun t => t == 3 || t == 4 || t == 1038) mixed Go.Proofs.Tryz.func29 rfl rfl rfl (by kernel_rfl) rfl (by simp) (by kernel_rfl) ?_
  simp
  refine ⟨_, IsAlphabet_spec b0 x hx.1 hx.2.1, ?_⟩
  unfold traceOfConfigurationV
  cases hA : isAlphaV x
  · simp
  · have hok := alOk_of hA
    have hl8 := hok.len
    have hll := hok.let_
    simp
    refine ⟨_, IsStructure_spec a0 a1 a2 s hs, ?_⟩
    cases hS : isStructureV s
    · simp
    · obtain ⟨h1, h2, h3⟩ := struc_len hS
      simp
      refine ⟨_, length_spec _ _ hs.1.1, ?_⟩
      simp
      refine ⟨_, IsMask_spec _ _, ?_⟩
      rw [h2, isMaskB_isM (by omega)]
      cases hm : isM s.labels.length c
      · simp
      · have hw : IntKind.i64.wrap (x.letters - 1) = x.letters - 1 := wrap_id _ (by omega) (by omega)
        simp [hw]
        refine ⟨_, allIn_spec _ _ _ _ hs.2.2.1, ?_⟩
        have hlo : (s.labels.all fun y => decide (0 ≤ y) && decide (y ≤ x.letters - 1)) = labOk x s := rfl
        rw [hlo]
        cases hl : labOk x s
        · simp
        · simp
          refine ⟨_, isConfiguration_spec _ _ _ s hS c hm, ?_⟩
          cases hcf : isConf s c
          · simp
          · have hwk := wordN_ok hok hS hl hm hcf
            simp
            refine ⟨_, ties_spec _ x, ?_⟩
            simp
            refine ⟨_, smallestWord_spec _ _ _ s hS c hm, ?_⟩
            rw [← wordN_nats hS]
            simp
            refine ⟨_, normal_spec _ _ _ (tok_of hok) _ hwk, ?_⟩
            simp
            first | refine ⟨⟨by kernel_rfl, by kernel_rfl⟩, ?_⟩ | exact ⟨by kernel_rfl, by kernel_rfl⟩
theorem TraceOfConfiguration_fits (x : AlphaV) (hx : AlphabetOk x) (s : StrucV) (hs : StructureOk s) (c : Int) (hc : I64 c) : ListOk (traceOfConfigurationV x s c).1 := by
  unfold traceOfConfigurationV
  by_cases hA : isAlphaV x = true
  · by_cases hS : isStructureV s = true
    · by_cases hm : isM s.labels.length c = true
      · by_cases hl : labOk x s = true
        · by_cases hcf : isConf s c = true
          · rw [if_pos hA, if_pos hS, if_pos hm, if_pos hl, if_pos hcf]
            have hok := alOk_of hA
            have hwk := wordN_ok hok hS hl hm hcf
            have hp := nf_perm (tok_of hok) _ (u := wordN s c) rfl hwk.2
            refine ⟨by simp only [Fits, nats_length]; rw [hp.length_eq]; have := hwk.1; omega, fun z hz => ?_⟩
            unfold nats at hz
            obtain ⟨a, ha, rfl⟩ := List.mem_map.1 hz
            have := hwk.2 a (hp.mem_iff.1 ha)
            have := hok.len
            unfold I64; omega
          · rw [if_pos hA, if_pos hS, if_pos hm, if_pos hl, if_neg hcf]; simp [ListOk, Fits]
        · rw [if_pos hA, if_pos hS, if_pos hm, if_neg hl]; simp [ListOk, Fits]
      · rw [if_pos hA, if_pos hS, if_neg hm]; simp [ListOk, Fits]
    · rw [if_pos hA, if_neg hS]; simp [ListOk, Fits]
  · rw [if_neg hA]; simp [ListOk, Fits]
end Go.AM
