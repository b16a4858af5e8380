/-
  Primes of words that are turned: plain.
-/
import Derived.Test.YthabclhldlikfaaGreatDoorFnMgF
import Derived.Test.YthabclhldlikfaaGreatDoorFnSw
set_option linter.unusedVariables false
set_option linter.unusedSimpArgs false
set_option linter.unusedSectionVars false
set_option maxRecDepth 100000
set_option maxHeartbeats 1600000
namespace Go.AM
open Go.Proofs
def scanM (t : List Int) : List Nat → Int → Int
  | [], m => m
  | b :: r, m => if tb m b then scanM t r (ibits .or .i64 m (nth t b)) else scanM t r m
theorem scan_app (t : List Int) : ∀ (r q : List Nat) (m : Int) (acc : List Nat), scanN t (r ++ q) m acc = scanN t q (scanM t r m) (scanN t r m acc) ∧ scanM t (r ++ q) m = scanM t q (scanM t r m)
  | [], q, m, acc => ⟨rfl, rfl⟩
  | b :: r, q, m, acc => by
    simp only [List.cons_append, scanN, scanM]
    split
    · exact scan_app t r q _ _
    · exact scan_app t r q _ _
theorem scanM_M {t : List Int} {n : Nat} (ht : ∀ a, a < n → M (nth t a)) : ∀ (r : List Nat) {m : Int}, (∀ c ∈ r, c < n) → M m → M (scanM t r m)
  | [], _, _, hm => hm
  | b :: r, m, hr, hm => by
    rw [scanM]
    split
    · exact scanM_M ht r (fun c hc => hr c (by simp [hc])) (M_or hm (ht b (hr b (by simp))))
    · exact scanM_M ht r (fun c hc => hr c (by simp [hc])) hm
theorem or_swap {a b c : Int} (ha : M a) (hb : M b) (hc : M c) : ibits .or .i64 (ibits .or .i64 a b) c = ibits .or .i64 (ibits .or .i64 a c) b := by
  refine tb_ext (M_or (M_or ha hb) hc) (M_or (M_or ha hc) hb) fun i _ => ?_
  rw [tb_or (M_or ha hb) hc, tb_or ha hb, tb_or (M_or ha hc) hb, tb_or ha hc]
  cases tb a i <;> cases tb b i <;> cases tb c i <;> rfl
def pastM (t : List Int) (u : List Nat) (i : Nat) : Int := scanM t (u.take i).reverse (nth t (natAt u i))
theorem take_cons_rev (b : Nat) (u : List Nat) (i : Nat) : ((b :: u).take (i + 1)).reverse = (u.take i).reverse ++ [b] := by simp
/-- Turned neighbours: the pasts are the same but for turned neighbours. -/
theorem past_sw {t : List Int} {n : Nat} (ht : ∀ a, a < n → M (nth t a)) {u v : List Nat} (h : Sw t u v) (hu : ∀ c ∈ u, c < n) : ∀ i, i < v.length → ∃ j, j < u.length ∧ pastM t u j = pastM t v i ∧ Sw t (pastW t u j) (pastW t v i) := by
  induction h with
  | refl u => exact fun i hi => ⟨i, hi, rfl, .refl _⟩
  | sw x y u h1 h2 =>
    intro i hi
    match i with
    | 0 => exact ⟨1, by simp, by simp [pastM, scanM, natAt, h2], by simp [pastW, scanN, natAt, h2]; exact .refl _⟩
    | 1 => exact ⟨0, by simp, by simp [pastM, scanM, natAt, h1], by simp [pastW, scanN, natAt, h1]; exact .refl _⟩
    | i + 2 =>
      refine ⟨i + 2, by simpa using hi, ?_⟩
      have hx := hu x (by simp)
      have hy := hu y (by simp)
      have hi' : i < u.length := by simpa using hi
      have hui := hu (natAt u i) (by simp [natAt_mem hi'])
      have e1 : ((x :: y :: u).take (i + 2)).reverse = (u.take i).reverse ++ [y, x] := by simp
      have e2 : ((y :: x :: u).take (i + 2)).reverse = (u.take i).reverse ++ [x, y] := by simp
      have n1 : natAt (x :: y :: u) (i + 2) = natAt u i := by simp [natAt]
      have n2 : natAt (y :: x :: u) (i + 2) = natAt u i := by simp [natAt]
      unfold pastM pastW
      rw [e1, e2, n1, n2, (scan_app t _ _ _ []).2, (scan_app t _ _ _ []).2, (scan_app t _ _ _ _).1, (scan_app t _ _ _ _).1]
      have hm := scanM_M ht (u.take i).reverse (m := nth t (natAt u i)) (fun c hc => hu c (by
        have := List.mem_of_mem_take (List.mem_reverse.1 hc)
        simp [this])) (ht _ hui)
      generalize scanM t (u.take i).reverse (nth t (natAt u i)) = m at *
      generalize scanN t (u.take i).reverse (nth t (natAt u i)) [natAt u i] = acc at *
      simp only [scanM, scanN]
      have b1 : tb (ibits .or .i64 m (nth t y)) x = tb m x := by rw [tb_or hm (ht y hy), h2]; simp
      have b2 : tb (ibits .or .i64 m (nth t x)) y = tb m y := by rw [tb_or hm (ht x hx), h1]; simp
      cases c1 : tb m x <;> cases c2 : tb m y <;> simp [b1, b2, c1, c2]
      · exact .refl _
      · exact .refl _
      · exact .refl _
      · exact ⟨or_swap hm (ht y hy) (ht x hx), .sw x y _ h1 h2⟩
  | cons b h ih =>
    intro i hi
    match i with
    | 0 => exact ⟨0, by simp, by simp [pastM, scanM, natAt], by simp [pastW, scanN, natAt]; exact .refl _⟩
    | i + 1 =>
      obtain ⟨j, hj, hm, hs⟩ := ih (fun c hc => hu c (by simp [hc])) i (by simpa using hi)
      refine ⟨j + 1, by simpa using hj, ?_⟩
      unfold pastM pastW at *
      rw [take_cons_rev, take_cons_rev, (scan_app t _ _ _ []).2, (scan_app t _ _ _ []).2, (scan_app t _ _ _ _).1, (scan_app t _ _ _ _).1]
      simp only [show ∀ (w : List Nat) (k : Nat), natAt (b :: w) (k + 1) = natAt w k from fun w k => by simp [natAt]]
      rw [hm]
      simp only [scanM, scanN]
      split
      · exact ⟨trivial, .cons b hs⟩
      · exact ⟨trivial, hs⟩
/-- Each prime of a row is one of another row. -/
def PrSub (t : List Int) (y w : List Int) : Prop := ∀ i, i < y.length → ∃ j, j < w.length ∧ primeR t y i = primeR t w j
theorem PrSub.trans {t : List Int} {a b c : List Int} (h1 : PrSub t a b) (h2 : PrSub t b c) : PrSub t a c := fun i hi => by
  obtain ⟨j, hj, e1⟩ := h1 i hi
  obtain ⟨k, hk, e2⟩ := h2 j hj
  exact ⟨k, hk, e1.trans e2⟩
theorem wn_len (r : List Int) : (wn r).length = r.length := by simp [wn]
theorem wn_nth {n : Nat} {r : List Int} (h : overW n r = true) {i : Nat} (hi : i < r.length) : (natAt (wn r) i : Int) = nth r i := by
  obtain ⟨e, _, _⟩ := overW_wn h
  have := nats_nth (L := wn r) (k := i) (by rw [wn_len]; exact hi)
  rw [← e] at this
  exact this.symm
theorem wn_natsU (v : List Nat) : wn (nats v) = v := by
  unfold wn nats
  induction v with
  | nil => rfl
  | cons a v ih => simp only [List.map_cons, Int.toNat_natCast, ih]
theorem swapR_sub {x : AlphaV} (hx : isAlphaV x = true) {r : List Int} (hr : overW x.depends.length r = true) {k : Nat} (hk : k + 1 < r.length) (hd : tb (nth x.depends (nth r k).toNat) (nth r (k + 1)).toNat = false) : PrSub x.depends (swapR r k) r := by
  have hok := alOk_of hx
  have hM : ∀ a, a < x.depends.length → M (nth x.depends a) := fun a ha => (alOk_M hok ha).1
  have ht : TOk x.depends := ⟨by have := hok.len; omega, hM⟩
  obtain ⟨e, hu, _⟩ := overW_wn hr
  have hl := wn_len r
  have n1 := wn_nth hr (show k < r.length by omega)
  have n2 := wn_nth hr hk
  have ha := hu.2 _ (natAt_mem (L := wn r) (k := k) (by omega))
  have hb := hu.2 _ (natAt_mem (L := wn r) (k := k + 1) (by omega))
  rw [← n1, ← n2] at hd
  simp only [Int.toNat_natCast] at hd
  have hsym : tb (nth x.depends (natAt (wn r) (k + 1))) (natAt (wn r) k) = false := by
    rw [← ((isAlphaV_iff hok.len hok.let_).1 hx).2.2 _ _ ha hb]; exact hd
  have hsw := Sw.turn (t := x.depends) (wn r) k (by omega) hd hsym
  have hew : wn (swapR r k) = turnN (wn r) k := by
    have h1 := turnN_nats (u := wn r) (i := k) (by omega)
    rw [← e] at h1
    rw [show swapR r k = nats (turnN (wn r) k) from h1, wn_natsU]
  intro i hi
  have hi2 : i < (turnN (wn r) k).length := by rw [← hew, wn_len]; exact hi
  obtain ⟨j, hj, _, hs⟩ := past_sw hM hsw hu.2 i hi2
  refine ⟨j, by omega, ?_⟩
  unfold primeR
  rw [hew]
  congr 1
  have hpm := pastW_ok (t := x.depends) hu.2 hj
  exact (hs.nf ht _ rfl hpm.1).symm
theorem cloRow_sub {x : AlphaV} (hx : isAlphaV x = true) {Q : List Int → Prop} {r : List Int} (hr : overW x.depends.length r = true) (hQ : ∀ y, PrSub x.depends y r → Q y) {A : List (List Int)} (hA : ∀ y ∈ A, Q y) : ∀ k, k ≤ r.length - 1 → ∀ y ∈ cloRow x.depends r A k, Q y
  | 0, _ => hA
  | k + 1, hk => by
    have ih := cloRow_sub hx hr hQ hA k (by omega)
    rw [cloRow_succ]
    cases hd : tb (nth x.depends (nth r k).toNat) (nth r (k + 1)).toNat
    · rw [cloK_f hd]
      split
      · exact ih
      · intro y hy
        rcases List.mem_append.1 hy with hy | hy
        · exact ih y hy
        · simp at hy
          rw [hy]
          exact hQ _ (swapR_sub hx hr (by omega) hd)
    · rw [cloK_t hd]; exact ih
theorem cloB_sub {x : AlphaV} (hx : isAlphaV x = true) {rs : List (List Int)} : ∀ (m i : Nat) {A : List (List Int)}, (∀ y ∈ A, overW x.depends.length y = true) → (∀ y ∈ A, ∃ w ∈ rs, PrSub x.depends y w) → ∀ y ∈ cloB x.depends m i A, ∃ w ∈ rs, PrSub x.depends y w
  | 0, _, _, _, h => h
  | m + 1, i, A, ho, h => by
    rw [cloB]
    split
    · rename_i hgo
      have hr := ho _ (nthR_mem hgo.1)
      obtain ⟨w, hw, hs⟩ := h _ (nthR_mem hgo.1)
      refine cloB_sub hx m (i + 1) (cloRow_overW ho hr _ (Nat.le_refl _)) ?_
      exact cloRow_sub hx (Q := fun y => ∃ w ∈ rs, PrSub x.depends y w) hr (fun y hy => ⟨w, hw, hy.trans hs⟩) h _ (Nat.le_refl _)
    · exact h
theorem primesRow_mem {t : List Int} {w : List Int} {acc : List (List Int)} : ∀ k {r : List Int}, r ∈ primesRow t w acc k → r ∈ acc ∨ ∃ i, i < k ∧ r = primeR t w i
  | 0, r, h => .inl h
  | k + 1, r, h => by
    rw [primesRow_succ] at h
    rcases putS_mem.1 h with rfl | h
    · exact .inr ⟨k, by omega, rfl⟩
    · rcases primesRow_mem k h with h | ⟨i, hi, e⟩
      · exact .inl h
      · exact .inr ⟨i, by omega, e⟩
theorem primesS_mem {t : List Int} {rs : List (List Int)} : ∀ k, k ≤ rs.length → ∀ {r : List Int}, r ∈ primesS t rs k → ∃ w ∈ rs, ∃ i, i < w.length ∧ r = primeR t w i
  | 0, _, r, h => by simp [primesS] at h
  | k + 1, hk, r, h => by
    rw [primesS_succ (by omega)] at h
    rcases primesRow_mem _ h with h | ⟨i, hi, e⟩
    · exact primesS_mem k (by omega) h
    · exact ⟨_, nthR_mem (by omega), i, hi, e⟩
theorem strict_nodup {rs : List (List Int)} (h : Strict rs) : rs.Nodup := h.imp fun {a b} hab e => by rw [e, cmpW_tot.self] at hab; omega
theorem nodup_len {α : Type} [DecidableEq α] : ∀ {l m : List α}, l.Nodup → (∀ x ∈ l, x ∈ m) → l.length ≤ m.length
  | [], m, _, _ => by simp
  | x :: l, m, hn, h => by
    rw [List.nodup_cons] at hn
    have hx := h x (by simp)
    have := nodup_len (l := l) (m := m.erase x) hn.2 (fun y hy => (List.mem_erase_of_ne (fun e => hn.1 (by rw [← e]; exact hy))).2 (h y (by simp [hy])))
    have hl := List.length_erase_of_mem hx
    have hp := List.length_pos_of_mem hx
    simp only [List.length_cons]
    omega
theorem primes_few {t : List Int} {A P : List (List Int)} (hP : Strict P) (h : ∀ r ∈ P, ∃ w ∈ A, ∃ i, i < w.length ∧ r = primeR t w i) (hA : A.length ≤ 2) (h4 : ∀ w ∈ A, w.length ≤ 4) : P.length ≤ 16 := by
  have hsub : ∀ r ∈ P, r ∈ A.flatMap fun w => (List.range w.length).map (primeR t w) := fun r hr => by
    obtain ⟨w, hw, i, hi, e⟩ := h r hr
    exact List.mem_flatMap.2 ⟨w, hw, List.mem_map.2 ⟨i, List.mem_range.2 hi, e.symm⟩⟩
  have hle := nodup_len (strict_nodup hP) hsub
  have : ∀ (B : List (List Int)), (∀ w ∈ B, w.length ≤ 4) → (B.flatMap fun w => (List.range w.length).map (primeR t w)).length ≤ 4 * B.length := by
    intro B
    induction B with
    | nil => intro _; simp
    | cons b B ih =>
      intro hB
      have h1 := ih fun w hw => hB w (by simp [hw])
      have h2 := hB b (by simp)
      simp only [List.flatMap_cons, List.length_append, List.length_map, List.length_range, List.length_cons]
      omega
  have := this A h4
  omega
theorem listOk_of_strict {n : Nat} {rs : List (List Int)} (hs : Strict rs) (ho : ∀ r ∈ rs, overW n r = true) (hl : rs.length ≤ 40) : listOk n rs = true := by
  unfold listOk
  simp only [Bool.and_eq_true, decide_eq_true_eq, List.all_eq_true, List.mem_range]
  refine ⟨fun i hi => ?_, hl⟩
  unfold stepOk
  rw [ho _ (nthR_mem hi), Bool.true_and]
  by_cases h0 : i = 0
  · simp [h0]
  · simp [strict_nthR hs (show i - 1 < i by omega) hi]
/-- A drawn list of two short words makes a structure. -/
theorem dwList_code {x : AlphaV} (hx : isAlphaV x = true) {l : List Int} {s : Src} (hs : SrcOk l s) {n len : Nat} (hn : n ≤ 10) (hlen : len ≤ 10) :
    SrcOk l (dwList x l n len s).1 ∧ isFin x (dwList x l n len s).2 = true ∧ (n = 2 → len = 4 → (structV x (dwList x l n len s).2).2 = 0) := by
  have hok := alOk_of hx
  have hlet := hok.let_
  have ht : TOk x.depends := ⟨by have := hok.len; omega, fun i hi => (alOk_M hok hi).1⟩
  have hs1 := nxS_ok hs ((n : Int) + 1)
  have hb1 := nxN_rng hs ((n : Int) + 1)
  unfold dwList
  generalize nxS l s ((n : Int) + 1) = s1 at *
  generalize nxN l s ((n : Int) + 1) = r1 at *
  obtain ⟨k0, rfl⟩ := Int.eq_ofNat_of_zero_le hb1.1
  simp only [Int.toNat_natCast]
  obtain ⟨z1, z2⟩ := dwL_ok (n := x.depends.length) (len := len) (by omega) (l := l) k0 0 hs1 (A := []) ⟨List.Pairwise.nil, fun r hr => by simp at hr, by simp⟩
  rw [← hlet] at z1 z2
  generalize dwL x.letters len l k0 s1 [] = R at *
  obtain ⟨s2, A⟩ := R
  simp only at z1 z2 ⊢
  have hAl : A.length ≤ 11 := by have := z2.len; omega
  have hov : ∀ r ∈ A, overW x.depends.length r = true := fun r hr => (z2.ok r hr).1
  have hfA : isFin x A = true := by unfold isFin; rw [hx, listOk_of_strict z2.st hov (by omega)]; rfl
  refine ⟨nxS_ok z1 4, ?_⟩
  have hcode : ∀ B, isFin x B = true → (∀ y ∈ B, ∃ w ∈ A, PrSub x.depends y w) → n = 2 → len = 4 → (structV x B).2 = 0 := fun B hB hsub h2 h4 => by
    obtain ⟨_, hBo, _⟩ := isFin_rows hB
    have hP := primesS_ok ht hBo B.length (Nat.le_refl _)
    have h16 := primes_few (t := x.depends) hP.st (fun r hr => by
      obtain ⟨w, hw, i, hi, e⟩ := primesS_mem B.length (Nat.le_refl _) hr
      obtain ⟨v, hv, hsv⟩ := hsub w hw
      obtain ⟨j, hj, e2⟩ := hsv i hi
      exact ⟨v, hv, j, hj, e.trans e2⟩) (by have := z2.len; omega) (fun w hw => by have := (z2.ok w hw).2; omega)
    unfold structV
    rw [if_pos hB, if_pos h16]
  split
  · rename_i hc
    obtain ⟨_, hc2, hc3⟩ := hc
    have hcl : closureV x A = (putAll (closR x.depends A) (closR x.depends A).length, 0) := by
      unfold closureV at hc2 ⊢
      rw [if_pos hfA] at hc2 ⊢
      split at hc2
      · rename_i h200; rw [if_pos h200]
      · cases hc2
    rw [hcl] at hc3 ⊢
    simp only at hc3 ⊢
    obtain ⟨p1, p2, p3⟩ := putAll_ok (rs := closR x.depends A) (closR x.depends A).length (Nat.le_refl _)
    have hBo : ∀ r ∈ putAll (closR x.depends A) (closR x.depends A).length, overW x.depends.length r = true := fun r hr => cloB_overW 300 0 hov r (p2 r hr)
    have hfB : isFin x (putAll (closR x.depends A) (closR x.depends A).length) = true := by unfold isFin; rw [hx, listOk_of_strict p1 hBo hc3]; rfl
    refine ⟨hfB, hcode _ hfB fun y hy => ?_⟩
    exact cloB_sub hx 300 0 hov (fun y hy => ⟨y, hy, fun i hi => ⟨i, hi, rfl⟩⟩) y (p2 y hy)
  · exact ⟨hfA, hcode _ hfA fun y hy => ⟨y, hy, fun i hi => ⟨i, hi, rfl⟩⟩⟩
end Go.AM
