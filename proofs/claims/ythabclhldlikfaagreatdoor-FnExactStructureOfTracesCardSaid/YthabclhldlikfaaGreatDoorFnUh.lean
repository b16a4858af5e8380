/-
  Draws: structures without words.
-/
import Derived.Test.YthabclhldlikfaaGreatDoorFnMgF
import Derived.Test.YthabclhldlikfaaGreatDoorFnV
set_option linter.unusedVariables false
set_option linter.unusedSimpArgs false
set_option linter.unusedSectionVars false
set_option maxRecDepth 100000
set_option maxHeartbeats 1600000
namespace Go.AM
open Go.Proofs
def hisI (x : StrucV) (f : Nat) : Int := ibits .or .i64 (nth x.below f) (pow1 f)
/-- What an event stands on, drawn. -/
def dfH (l : List Int) (x : StrucV) (s : Src) (e : Nat) : Src × Int := (List.range e).foldl (fun z f => (nxS l z.1 4, if nxN l z.1 4 = 0 then ibits .or .i64 z.2 (hisI x f) else z.2)) (s, 0)
def dfE (l : List Int) (s : Src) (x : StrucV) (e : Nat) : Src × StrucV :=
  (nxS l (dfH l x s e).1 4, ⟨x.below ++ [(dfH l x s e).2], x.clash ++ [0], x.labels ++ [nxN l (dfH l x s e).1 4]⟩)
def dfP (l : List Int) (s : Src) (n : Nat) : Src × StrucV := (List.range n).foldl (fun z e => dfE l z.1 z.2 e) (s, ⟨[], [], []⟩)
def joinC (x : StrucV) (e f : Nat) : StrucV := ⟨x.below, (x.clash.set e (ibits .or .i64 (nth x.clash e) (pow1 f))).set f (ibits .or .i64 (nth (x.clash.set e (ibits .or .i64 (nth x.clash e) (pow1 f))) f) (pow1 e)), x.labels⟩
def clR (n : Nat) (a b : Int) (x : StrucV) (e m : Nat) : StrucV := (List.range m).foldl (fun y f => if (tb (hisI x e) a.toNat && tb (hisI x f) b.toNat) = true then joinC y e f else y) x
theorem dfH_succ (l : List Int) (x : StrucV) (s : Src) (e : Nat) : dfH l x s (e + 1) = (nxS l (dfH l x s e).1 4, if nxN l (dfH l x s e).1 4 = 0 then ibits .or .i64 (dfH l x s e).2 (hisI x e) else (dfH l x s e).2) := by
  unfold dfH; rw [List.range_succ, List.foldl_append]; rfl
theorem dfP_succ (l : List Int) (s : Src) (n : Nat) : dfP l s (n + 1) = dfE l (dfP l s n).1 (dfP l s n).2 n := by
  unfold dfP; rw [List.range_succ, List.foldl_append]; rfl
/-- A structure as it grows. -/
structure FrOk (n : Nat) (x : StrucV) : Prop where
  b : x.below.length = n
  c : x.clash.length = n
  d : x.labels.length = n
  m : ∀ i, i < n → isM 16 (nth x.below i) = true
  cm : ∀ i, i < n → isM 16 (nth x.clash i) = true
  li : ∀ i, i < n → 0 ≤ nth x.labels i ∧ nth x.labels i < 4
theorem isM_or {n : Nat} (hn : n ≤ 24) {a b : Int} (ha : isM n a = true) (hb : isM n b = true) : isM n (ibits .or .i64 a b) = true := by
  obtain ⟨a1, a2⟩ := isM_spec (by omega) ha
  obtain ⟨b1, b2⟩ := isM_spec (by omega) hb
  refine isM_of (by omega) (M_or a1 b1) fun j hj => ?_
  rw [tb_or a1 b1, a2 j hj, b2 j hj]; rfl
theorem isM_pow1 {n i : Nat} (hn : n ≤ 24) (hi : i < n) : isM n (pow1 i) = true := isM_of (by omega) (M_pow1 (by omega)) fun j hj => by rw [tb_pow1 (by omega)]; simp; omega
theorem isM_zero {n : Nat} (hn : n ≤ 24) : isM n 0 = true := isM_of (by omega) M_zero fun j _ => by simp
theorem hisI_ok {n : Nat} {x : StrucV} (h : FrOk n x) {f : Nat} (hf : f < n) (h16 : n ≤ 16) : isM 16 (hisI x f) = true := isM_or (by omega) (h.m f hf) (isM_pow1 (by omega) (by omega))
theorem dfH_ok {l : List Int} {n : Nat} {x : StrucV} (h : FrOk n x) (h16 : n ≤ 16) {s : Src} (hs : SrcOk l s) : ∀ e, e ≤ n → SrcOk l (dfH l x s e).1 ∧ isM 16 (dfH l x s e).2 = true
  | 0, _ => ⟨hs, isM_zero (by omega)⟩
  | e + 1, he => by
    obtain ⟨a1, a2⟩ := dfH_ok h h16 hs e (by omega)
    rw [dfH_succ]
    refine ⟨nxS_ok a1 4, ?_⟩
    simp only
    split
    · exact isM_or (by omega) a2 (hisI_ok h (by omega) h16)
    · exact a2
theorem nth_app_lU {a : List Int} {x : Int} {i : Nat} (h : i < a.length) : nth (a ++ [x]) i = nth a i := by
  rw [nth_at (by simp; omega), nth_at h, List.getElem_append_left h]
theorem nth_app_eU {a : List Int} {x : Int} : nth (a ++ [x]) a.length = x := by
  rw [nth_at (by simp)]; simp
theorem dfE_ok {l : List Int} {n : Nat} {x : StrucV} (h : FrOk n x) (h16 : n ≤ 16) {s : Src} (hs : SrcOk l s) : SrcOk l (dfE l s x n).1 ∧ FrOk (n + 1) (dfE l s x n).2 := by
  obtain ⟨a1, a2⟩ := dfH_ok h h16 hs n (Nat.le_refl _)
  have hb := nxN_rng a1 4
  refine ⟨nxS_ok a1 4, ⟨by simp [dfE, h.b], by simp [dfE, h.c], by simp [dfE, h.d], fun i hi => ?_, fun i hi => ?_, fun i hi => ?_⟩⟩
  · by_cases e : i < n
    · rw [show nth (dfE l s x n).2.below i = nth x.below i from nth_app_lU (by have := h.b; omega)]; exact h.m i e
    · obtain rfl : i = n := by omega
      have e2 : nth (dfE l s x i).2.below i = (dfH l x s i).2 := by
        have := nth_app_eU (a := x.below) (x := (dfH l x s i).2)
        rw [h.b] at this; exact this
      rw [e2]; exact a2
  · by_cases e : i < n
    · rw [show nth (dfE l s x n).2.clash i = nth x.clash i from nth_app_lU (by have := h.c; omega)]; exact h.cm i e
    · obtain rfl : i = n := by omega
      have e2 : nth (dfE l s x i).2.clash i = 0 := by
        have := nth_app_eU (a := x.clash) (x := 0)
        rw [h.c] at this; exact this
      rw [e2]; exact isM_zero (by omega)
  · by_cases e : i < n
    · rw [show nth (dfE l s x n).2.labels i = nth x.labels i from nth_app_lU (by have := h.d; omega)]; exact h.li i e
    · obtain rfl : i = n := by omega
      have e2 : nth (dfE l s x i).2.labels i = nxN l (dfH l x s i).1 4 := by
        have := nth_app_eU (a := x.labels) (x := nxN l (dfH l x s i).1 4)
        rw [h.d] at this; exact this
      rw [e2]; omega
theorem dfP_ok {l : List Int} {s : Src} (hs : SrcOk l s) : ∀ n, n ≤ 16 → SrcOk l (dfP l s n).1 ∧ FrOk n (dfP l s n).2
  | 0, _ => ⟨hs, ⟨rfl, rfl, rfl, fun i hi => by omega, fun i hi => by omega, fun i hi => by omega⟩⟩
  | n + 1, hn => by
    obtain ⟨a1, a2⟩ := dfP_ok hs n (by omega)
    rw [dfP_succ]
    exact dfE_ok a2 (by omega) a1
theorem nth_setIU {l : List Int} {k : Nat} {v : Int} {i : Nat} (hi : i < l.length) : nth (l.set k v) i = if k = i then v else nth l i := by
  rw [nth_at (by simpa using hi), nth_at hi, List.getElem_set]
theorem joinC_ok {n : Nat} {x : StrucV} (h : FrOk n x) (h16 : n ≤ 16) {e f : Nat} (he : e < n) (hf : f < n) : FrOk n (joinC x e f) := by
  have h1 : ∀ i, i < n → isM 16 (nth (x.clash.set e (ibits .or .i64 (nth x.clash e) (pow1 f))) i) = true := fun i hi => by
    rw [nth_setIU (by have := h.c; omega)]
    split
    · exact isM_or (by omega) (h.cm e he) (isM_pow1 (by omega) (by omega))
    · exact h.cm i hi
  refine ⟨h.b, by simp [joinC, h.c], h.d, h.m, fun i hi => ?_, h.li⟩
  unfold joinC
  simp only
  rw [nth_setIU (by simp [h.c]; omega)]
  split
  · exact isM_or (by omega) (h1 f hf) (isM_pow1 (by omega) (by omega))
  · exact h1 i hi
theorem clR_succ (n : Nat) (a b : Int) (x : StrucV) (e m : Nat) : clR n a b x e (m + 1) = if (tb (hisI x e) a.toNat && tb (hisI x m) b.toNat) = true then joinC (clR n a b x e m) e m else clR n a b x e m := by
  unfold clR; rw [List.range_succ, List.foldl_append]; rfl
theorem clR_below (n : Nat) (a b : Int) (x : StrucV) (e : Nat) : ∀ m, (clR n a b x e m).below = x.below
  | 0 => rfl
  | m + 1 => by
    rw [clR_succ]
    split
    · exact clR_below n a b x e m
    · exact clR_below n a b x e m
theorem clR_ok {n : Nat} (h16 : n ≤ 16) {a b : Int} {x : StrucV} (h : FrOk n x) {e : Nat} (he : e < n) : ∀ m, m ≤ n → FrOk n (clR n a b x e m)
  | 0, _ => h
  | m + 1, hm => by
    have ih := clR_ok h16 (a := a) (b := b) h he m (by omega)
    rw [clR_succ]
    split
    · exact joinC_ok ih h16 he (by omega)
    · exact ih
def clA (n : Nat) (a b : Int) (x : StrucV) (e : Nat) : StrucV := (List.range e).foldl (fun y e => clR n a b y e n) x
theorem clA_succ (n : Nat) (a b : Int) (x : StrucV) (e : Nat) : clA n a b x (e + 1) = clR n a b (clA n a b x e) e n := by
  unfold clA; rw [List.range_succ, List.foldl_append]; rfl
theorem clA_ok {n : Nat} (h16 : n ≤ 16) {a b : Int} {x : StrucV} (h : FrOk n x) : ∀ e, e ≤ n → FrOk n (clA n a b x e)
  | 0, _ => h
  | e + 1, he => by rw [clA_succ]; exact clR_ok h16 (clA_ok h16 h e (by omega)) (by omega) n (Nat.le_refl _)
theorem clR_same (n : Nat) (a b : Int) (x : StrucV) (e : Nat) : ∀ m, (clR n a b x e m).below = x.below ∧ (clR n a b x e m).labels = x.labels
  | 0 => ⟨rfl, rfl⟩
  | m + 1 => by
    rw [clR_succ]
    split
    · exact clR_same n a b x e m
    · exact clR_same n a b x e m
theorem clA_same (n : Nat) (a b : Int) (x : StrucV) : ∀ e, (clA n a b x e).below = x.below ∧ (clA n a b x e).labels = x.labels
  | 0 => ⟨rfl, rfl⟩
  | e + 1 => by
    rw [clA_succ]
    have h1 := clR_same n a b (clA n a b x e) e n
    have h2 := clA_same n a b x e
    exact ⟨h1.1.trans h2.1, h1.2.trans h2.2⟩
def badC (a b : Int) (x : StrucV) (m : Nat) : Bool := (List.range m).any fun g => tb (hisI x g) a.toNat && tb (hisI x g) b.toNat
theorem badC_succ (a b : Int) (x : StrucV) (m : Nat) : badC a b x (m + 1) = (badC a b x m || (tb (hisI x m) a.toNat && tb (hisI x m) b.toNat)) := by
  unfold badC; rw [List.range_succ, List.any_append]; simp
def dfC (l : List Int) (n : Nat) : Nat → Src → StrucV → Src × StrucV
  | 0, s, x => (s, x)
  | k + 1, s, x => if 1 < n then dfC l n k (nxS l (nxS l s n) n) (if badC (nxN l s n) (nxN l (nxS l s n) n) x n = true then x else clA n (nxN l s n) (nxN l (nxS l s n) n) x n) else (s, x)
theorem dfC_ok {l : List Int} {n : Nat} (h16 : n ≤ 16) : ∀ (k : Nat) {s : Src} {x : StrucV}, SrcOk l s → FrOk n x → SrcOk l (dfC l n k s x).1 ∧ FrOk n (dfC l n k s x).2
  | 0, s, x, hs, hx => ⟨hs, hx⟩
  | k + 1, s, x, hs, hx => by
    rw [dfC]
    split
    · refine dfC_ok h16 k (nxS_ok (nxS_ok hs n) n) ?_
      split
      · exact hx
      · exact clA_ok h16 hx n (Nat.le_refl _)
    · exact ⟨hs, hx⟩
/-- A structure drawn without words. -/
def drawFree (l : List Int) (s : Src) (n : Nat) : Src × StrucV := dfC l n (nxN l (dfP l s n).1 5).toNat (nxS l (dfP l s n).1 5) (dfP l s n).2
theorem drawFree_ok {l : List Int} {s : Src} (hs : SrcOk l s) {n : Nat} (h16 : n ≤ 16) : SrcOk l (drawFree l s n).1 ∧ FrOk n (drawFree l s n).2 := by
  obtain ⟨a1, a2⟩ := dfP_ok (l := l) hs n h16
  exact dfC_ok h16 _ (nxS_ok a1 5) a2
theorem l16DrawFree_spec (nn : Bool) (l : List Int) (s : Src) (hs : SrcOk l s) (n : Nat) (hn : n ≤ 10) : ACalls2 Tryz.prog 235 [srcA nn l s, iv n] [srcA nn l (drawFree l s n).1, iv n] (strucOw false false false (drawFree l s n).2) := by
  unfold drawFree
  refine walkO (fun t => t == 2028 || t == 1041 || t == 2044 || t == 2054 || t == 2065 || t == 2068) mixed Go.Proofs.Tryz.func235 rfl rfl rfl (by kernel_rfl) (by simp) (by simp) (by simp) (by kernel_rfl) ?_
  simp
  refine awp_loop2 [0, 1, 4, 5] [4] (fun e : Nat => [(6, iv e)]) (fun e => [(1000000000, srcA nn l (dfP l s e).1), (5, .box [.ref 200, .ref 201, .ref 202]), (200, .own 1 false (ints (dfP l s e).2.below)), (201, .own 1 false (ints (dfP l s e).2.clash)), (202, .own 1 false (ints (dfP l s e).2.labels))]) (fun e => e ≤ n) (fun e => n - e) 0 (weak_mk (fun t => if t = 200 then none else if t = 201 then none else if t = 202 then none else some t) (by simp) (by simp [dfP]) rfl) (by simp) ?_
  intro e he
  obtain ⟨a1, a2⟩ := dfP_ok (l := l) hs e (by omega)
  have hsucc := dfP_succ l s e
  have hE : e = n → dfP l s e = dfP l s n := fun h => by rw [h]
  generalize dfP l s e = z at *
  obtain ⟨s1, x⟩ := z
  simp only at a1 a2
  by_cases hlt : e < n
  · simp [hlt]
    refine awp_loop2 [0, 1, 4, 5, 6] [4, 5, 200, 201, 202] (fun f : Nat => [(8, iv f), (7, iv (dfH l x s1 f).2)]) (fun f => [(1000000000, srcA nn l (dfH l x s1 f).1)]) (fun f => f ≤ e) (fun f => e - f) 0 (weak_mk some (by simp [dfH]) (by simp [dfH]) rfl) (by simp) ?_
    intro f hf
    obtain ⟨b1, b2⟩ := dfH_ok a2 (by omega) a1 f hf
    have hsu := dfH_succ l x s1 f
    have hF : f = e → dfH l x s1 f = dfH l x s1 e := fun h => by rw [h]
    generalize dfH l x s1 f = y at *
    obtain ⟨s2, mk⟩ := y
    simp only at b1 b2 hsu
    by_cases hlf : f < e
    · have hh := l16History_spec false false false x f (by have := a2.b; omega) (by have := a2.b; omega)
      rw [show histOf x f = hisI x f from rfl] at hh
      have hwf : IntKind.i64.wrap ((f : Int) + 1) = ((f + 1 : Nat) : Int) := by rw [wrap_id _ (by omega) (by omega)]; omega
      simp [hlf]
      refine ⟨_, _, l01Next_spec nn l s2 b1 4 (by unfold I64; omega), ?_⟩
      generalize nxS l s2 4 = s3 at *
      generalize nxN l s2 4 = r at *
      simp
      refine ⟨fun h0 => ?_, fun h0 => ?_⟩
      · rw [if_pos h0] at hsu
        refine ⟨_, hh, ?_⟩
        simp [hwf]
        exact Round.mk (f + 1) (weak_mk some (by simp [hsu]) (by simp [hsu]) rfl) hlf (by omega)
      · rw [if_neg h0] at hsu
        simp [hwf]
        exact Round.mk (f + 1) (weak_mk some (by simp [hsu]) (by simp [hsu]) rfl) hlf (by omega)
    · obtain rfl : f = e := by omega
      have hlb := a2.b
      have hlc := a2.c
      have hld := a2.d
      have hwf : IntKind.i64.wrap ((f : Int) + 1) = ((f + 1 : Nat) : Int) := by rw [wrap_id _ (by omega) (by omega)]; omega
      have hF2 := hF rfl
      unfold dfE at hsucc
      rw [← hF2] at hsucc
      simp only at hsucc
      simp [hlb]
      refine ⟨by omega, by omega, _, _, l01Next_spec nn l s2 b1 4 (by unfold I64; omega), ?_⟩
      generalize nxS l s2 4 = s3 at *
      generalize nxN l s2 4 = r at *
      simp [hlc, hld]
      repeat (refine And.intro (by first | omega | exact ⟨by kernel_rfl, by kernel_rfl⟩) ?_)
      rw [hwf]
      exact Round.mk (f + 1) (weak_mk (fun t => if t = 200 then some 39 else if t = 201 then some 51 else if t = 202 then some 46 else some t) (by simp) (by simp [hsucc]) rfl) hlt (by omega)
  · obtain rfl : e = n := by omega
    rw [← hE rfl]
    simp
    refine ⟨_, _, l01Next_spec nn l s1 a1 5 (by unfold I64; omega), ?_⟩
    have hs5 := nxS_ok a1 5
    have hb5 := nxN_rng a1 5
    generalize nxS l s1 5 = s5 at *
    generalize nxN l s1 5 = r5 at *
    obtain ⟨k0, rfl⟩ := Int.eq_ofNat_of_zero_le hb5.1
    simp only [Int.toNat_natCast]
    generalize hR : dfC l e k0 s5 x = R at *
    clear hsucc hE
    simp
    refine awp_loop2 [0, 1, 4, 5] [4, 5, 200, 202] (fun q : Src × Nat × List Int => [(9, iv q.2.1)]) (fun q => [(1000000000, srcA nn l q.1), (201, .own 1 false (ints q.2.2))])
      (fun q => SrcOk l q.1 ∧ q.2.1 ≤ 5 ∧ FrOk e ⟨x.below, q.2.2, x.labels⟩ ∧ dfC l e q.2.1 q.1 ⟨x.below, q.2.2, x.labels⟩ = R) (fun q => q.2.1) (s5, k0, x.clash) (weak_mk some (by simp) (by simp) rfl) ⟨hs5, by simp only; omega, a2, hR⟩ ?_
    rintro ⟨q, k, cl⟩ ⟨hq, hk5, hX, hdf⟩
    simp only at hq hk5 hX hdf
    by_cases hk : 0 < k
    · obtain ⟨m, rfl⟩ : ∃ m, k = m + 1 := ⟨k - 1, by omega⟩
      rw [dfC] at hdf
      by_cases hn1 : 1 < e
      · rw [if_pos hn1] at hdf
        simp [hn1, show (1 : Int) < (e : Int) by omega, show ¬ (e : Int) ≤ 1 by omega]
        refine ⟨_, _, l01Next_spec nn l q hq e (by unfold I64; omega), ?_⟩
        have hq1 := nxS_ok hq (e : Int)
        have hba := nxN_rng hq (e : Int)
        generalize nxS l q (e : Int) = q1 at *
        generalize nxN l q (e : Int) = av at *
        obtain ⟨a, rfl⟩ := Int.eq_ofNat_of_zero_le hba.1
        simp
        refine ⟨_, _, l01Next_spec nn l q1 hq1 e (by unfold I64; omega), ?_⟩
        have hq2 := nxS_ok hq1 (e : Int)
        have hbb := nxN_rng hq1 (e : Int)
        generalize nxS l q1 (e : Int) = q2 at *
        generalize nxN l q1 (e : Int) = bv1 at *
        obtain ⟨b, rfl⟩ := Int.eq_ofNat_of_zero_le hbb.1
        have hHi : ∀ (c : List Int) (g : Nat), g < e → ACalls1 Tryz.prog 253 [strucSl false false false ⟨x.below, c, x.labels⟩, iv g] (iv (hisI x g)) ∧ M (hisI x g) := fun c g hg => by
          have := l16History_spec false false false ⟨x.below, c, x.labels⟩ g (by have := a2.b; simp only; omega) (by have := a2.b; simp only; omega)
          exact ⟨this, (isM_spec (by omega) (hisI_ok a2 hg (by omega))).1⟩
        have hbadE : ∀ g, badC a b ⟨x.below, cl, x.labels⟩ g = badC a b x g := fun g => rfl
        rw [hbadE] at hdf
        simp
        refine awp_loop2 [0, 1, 4, 5, 9, 10, 11] [4, 5, 200, 201, 202, 1000000000] (fun g : Nat => [(13, iv g), (12, bv (badC a b x g))]) (fun _ => []) (fun g => g ≤ e) (fun g => e - g) 0 (weak_mk some (by simp [badC]) (by simp) rfl) (by simp) ?_
        intro g hg
        have hbs := badC_succ a b x g
        have hbE : g = e → badC a b x g = badC a b x e := fun h => by rw [h]
        simp only [Int.toNat_natCast] at hbs
        generalize badC a b x g = B at *
        by_cases hlg : g < e
        · obtain ⟨hh, hM⟩ := hHi cl g hlg
          have hwg : IntKind.i64.wrap ((g : Int) + 1) = ((g + 1 : Nat) : Int) := by rw [wrap_id _ (by omega) (by omega)]; omega
          cases B
          · simp [hlg]
            refine ⟨_, hh, ?_⟩
            simp
            refine ⟨_, l01Bit_spec _ hM a (by omega), ?_⟩
            cases hb1 : tb (hisI x g) a
            · simp [hwg]
              exact Round.mk (g + 1) (weak_mk some (by simp [hbs, hb1]) (by simp) rfl) hlg (by omega)
            · simp
              refine ⟨_, hh, ?_⟩
              simp
              refine ⟨_, l01Bit_spec _ hM b (by omega), ?_⟩
              simp [hwg]
              exact Round.mk (g + 1) (weak_mk some (by simp [hbs, hb1]) (by simp) rfl) hlg (by omega)
          · simp [hlg, hwg]
            exact Round.mk (g + 1) (weak_mk some (by simp [hbs]) (by simp) rfl) hlg (by omega)
        · obtain rfl : g = e := by omega
          rw [← hbE rfl] at hdf
          have hwm : IntKind.i64.wrap (m : Int) = (m : Int) := wrap_id _ (by omega) (by omega)
          cases B
          · rw [if_neg (by simp)] at hdf
            simp
            refine awp_loop2 [0, 1, 4, 5, 9, 10, 11, 12] [4, 5, 200, 202, 1000000000] (fun i : Nat => [(14, iv i)]) (fun i => [(201, .own 1 false (ints (clA g a b ⟨x.below, cl, x.labels⟩ i).clash))]) (fun i => i ≤ g) (fun i => g - i) 0 (weak_mk some (by simp) (by simp [clA]) rfl) (by simp) ?_
            intro i hi
            have hAo := clA_ok (n := g) (by omega) (a := (a : Int)) (b := (b : Int)) hX i hi
            have hAs := clA_succ g a b ⟨x.below, cl, x.labels⟩ i
            have hAb : (clA g a b ⟨x.below, cl, x.labels⟩ i).below = x.below ∧ (clA g a b ⟨x.below, cl, x.labels⟩ i).labels = x.labels := clA_same g a b ⟨x.below, cl, x.labels⟩ i
            have hAe : i = g → clA g a b ⟨x.below, cl, x.labels⟩ i = clA g a b ⟨x.below, cl, x.labels⟩ g := fun h => by rw [h]
            generalize clA g a b ⟨x.below, cl, x.labels⟩ i = Y at *
            obtain ⟨yb, yc, yl⟩ := Y
            obtain ⟨rfl, rfl⟩ := hAb
            by_cases hli : i < g
            · simp [hli]
              refine awp_loop2 [0, 1, 4, 5, 9, 10, 11, 12, 14] [4, 5, 200, 202, 1000000000] (fun f : Nat => [(15, iv f)]) (fun f => [(201, .own 1 false (ints (clR g a b ⟨x.below, yc, x.labels⟩ i f).clash))]) (fun f => f ≤ g) (fun f => g - f) 0 (weak_mk some (by simp) (by simp [clR]) rfl) (by simp) ?_
              intro f hf
              have hRo := clR_ok (n := g) (by omega) (a := (a : Int)) (b := (b : Int)) hAo hli f hf
              have hRs := clR_succ g a b ⟨x.below, yc, x.labels⟩ i f
              have hRb := clR_same g a b ⟨x.below, yc, x.labels⟩ i f
              have hRe : f = g → clR g a b ⟨x.below, yc, x.labels⟩ i f = clR g a b ⟨x.below, yc, x.labels⟩ i g := fun h => by rw [h]
              generalize clR g a b ⟨x.below, yc, x.labels⟩ i f = Z at *
              obtain ⟨zb, zc, zl⟩ := Z
              obtain ⟨rfl, rfl⟩ := hRb
              simp only [Int.toNat_natCast] at hRs
              rw [show hisI ⟨x.below, yc, x.labels⟩ i = hisI x i from rfl, show hisI ⟨x.below, yc, x.labels⟩ f = hisI x f from rfl] at hRs
              have hzl : zc.length = g := hRo.c
              have hwi : IntKind.i64.wrap ((i : Int) + 1) = ((i + 1 : Nat) : Int) := by rw [wrap_id _ (by omega) (by omega)]; omega
              by_cases hlf : f < g
              · obtain ⟨hhi, hMi⟩ := hHi zc i hli
                obtain ⟨hhf, hMf⟩ := hHi zc f hlf
                have hwf : IntKind.i64.wrap ((f : Int) + 1) = ((f + 1 : Nat) : Int) := by rw [wrap_id _ (by omega) (by omega)]; omega
                simp [hlf]
                refine ⟨_, hhi, ?_⟩
                simp
                refine ⟨_, l01Bit_spec _ hMi a (by omega), ?_⟩
                cases hb1 : tb (hisI x i) a
                · rw [hb1] at hRs
                  simp [hwf]
                  exact Round.mk (f + 1) (weak_mk some (by simp) (by simp [hRs]) rfl) hlf (by omega)
                · simp
                  refine ⟨_, hhf, ?_⟩
                  simp
                  refine ⟨_, l01Bit_spec _ hMf b (by omega), ?_⟩
                  cases hb2 : tb (hisI x f) b
                  · rw [hb1, hb2] at hRs
                    simp [hwf]
                    exact Round.mk (f + 1) (weak_mk some (by simp) (by simp [hRs]) rfl) hlf (by omega)
                  · rw [hb1, hb2, if_pos (by simp)] at hRs
                    have hiz : i < zc.length := by omega
                    have hfz : f < zc.length := by omega
                    simp [hiz, hfz, ints_put]
                    refine ⟨by omega, _, l01One_spec f (by unfold I64; omega), ?_⟩
                    simp [hiz, hfz, ints_put]
                    repeat (refine And.intro (by first | omega | exact ⟨by kernel_rfl, by kernel_rfl⟩) ?_)
                    try simp [hiz, hfz, ints_put]
                    refine ⟨_, l01One_spec i (by unfold I64; omega), ?_⟩
                    simp [hiz, hfz, ints_put]
                    repeat (refine And.intro (by first | omega | exact ⟨by kernel_rfl, by kernel_rfl⟩) ?_)
                    try simp [hiz, hfz, ints_put]
                    try rw [hwf]
                    exact Round.mk (f + 1) (weak_mk some (by simp) (by simp [hRs, joinC]) rfl) hlf (by omega)
              · obtain rfl : f = g := by omega
                rw [← hRe rfl] at hAs
                simp [hwi]
                exact Round.mk (i + 1) (weak_mk some (by simp) (by simp [hAs]) rfl) hli (by omega)
            · obtain rfl : i = g := by omega
              rw [← hAe rfl] at hdf
              simp
              rw [hwm]
              exact Round.mk (q2, m, yc) (weak_mk some (by simp) (by simp) rfl) ⟨hq2, by simp only; omega, hAo, hdf⟩ (by simp only; omega)
          · rw [if_pos rfl] at hdf
            simp
            refine awp_loop2 [0, 1, 4, 5, 9, 10, 11, 12] [4, 5, 200, 201, 202, 1000000000] (fun _ : Unit => [(14, iv 0)]) (fun _ => []) (fun _ => True) (fun _ => 0) () (weak_mk some (by simp) (by simp) rfl) trivial ?_
            rintro ⟨⟩ _
            simp [show 0 < g by omega]
            rw [hwm]
            exact Round.mk (q2, m, cl) (weak_mk some (by simp) (by simp) rfl) ⟨hq2, by simp only; omega, hX, hdf⟩ (by simp only; omega)
      · rw [if_neg hn1] at hdf
        subst hdf
        simp [hn1, show ¬ (1 : Int) < (e : Int) by omega]
    · obtain rfl : k = 0 := by omega
      simp only [dfC] at hdf
      subst hdf
      simp
end Go.AM
