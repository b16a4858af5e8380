/-
  Several texts in one: FnVp FnVq.
-/
import Derived.Test.YthabclhldlikfaaGreatDoorFnUi
import Derived.Test.YthabclhldlikfaaGreatDoorFnGd
set_option linter.unusedVariables false
set_option linter.unusedSimpArgs false
set_option linter.unusedSectionVars false
set_option maxRecDepth 100000
set_option maxHeartbeats 1600000
namespace Go.AM
open Go.Proofs
theorem Sw.symm {t : List Int} {u v : List Nat} (h : Sw t u v) : Sw t v u := by
  induction h with
  | refl => exact .refl _
  | sw x y u h1 h2 => exact .sw y x u h2 h1
  | cons b _ ih => exact .cons b ih
/-- Turned again and again. -/
inductive Sws (t : List Int) : List Nat → List Nat → Prop
  | refl (u : List Nat) : Sws t u u
  | step {u v w : List Nat} : Sw t u v → Sws t v w → Sws t u w
theorem Sws.trans {t : List Int} {u v w : List Nat} (h1 : Sws t u v) (h2 : Sws t v w) : Sws t u w := by
  induction h1 with
  | refl => exact h2
  | step h _ ih => exact .step h (ih h2)
theorem Sws.cons {t : List Int} (b : Nat) {u v : List Nat} (h : Sws t u v) : Sws t (b :: u) (b :: v) := by
  induction h with
  | refl => exact .refl _
  | step h _ ih => exact .step (.cons b h) ih
theorem Sws.symm {t : List Int} {u v : List Nat} (h : Sws t u v) : Sws t v u := by
  induction h with
  | refl => exact .refl _
  | step h _ ih => exact ih.trans (.step h.symm (.refl _))
theorem Sws.perm {t : List Int} {u v : List Nat} (h : Sws t u v) : u.Perm v := by
  induction h with
  | refl => exact .refl _
  | step h _ ih => exact h.perm.trans ih
theorem Sws.nf {t : List Int} (ht : TOk t) {u v : List Nat} (h : Sws t u v) (hu : ∀ a ∈ u, a < t.length) : nf t u = nf t v := by
  induction h with
  | refl => rfl
  | step h _ ih => exact (h.nf ht _ rfl hu).trans (ih fun a ha => hu a (h.perm.mem_iff.2 ha))
/-- A letter that can stand first is brought to the front. -/
theorem free_front {t : List Int} {n : Nat} (hs : ∀ a b, a < n → b < n → tb (nth t a) b = tb (nth t b) a) : ∀ {u : List Nat} {a : Nat}, (∀ c ∈ u, c < n) → isFree t u a = true → Sws t u (a :: u.erase a)
  | [], a, _, h => by simp [isFree] at h
  | b :: u, a, hu, h => by
    by_cases e : b = a
    · subst e; simp; exact .refl _
    · have e' : (b == a) = false := by simpa using e
      simp only [isFree, e', Bool.false_or, Bool.and_eq_true, Bool.not_eq_true'] at h
      have ih := free_front hs (u := u) (a := a) (fun c hc => hu c (by simp [hc])) h.2
      have ha := hu a (by simp [isFree_mem h.2])
      have hb := hu b (by simp)
      rw [List.erase_cons, e']
      simp only [Bool.false_eq_true, if_false]
      refine (ih.cons b).trans (.step (.sw b a _ h.1 ?_) (.refl _))
      rw [← hs b a hb ha]; exact h.1
theorem sws_nf {t : List Int} (ht : TOk t) (hs : ∀ a b, a < t.length → b < t.length → tb (nth t a) b = tb (nth t b) a) : ∀ (k : Nat) {u : List Nat}, u.length = k → (∀ c ∈ u, c < t.length) → Sws t u (nf t u)
  | 0, u, hk, _ => by
    obtain rfl := List.length_eq_zero_iff.1 hk
    exact .refl _
  | k + 1, u, hk, hu => by
    have hne : u ≠ [] := fun h => by subst h; simp at hk
    obtain ⟨hm, hf, _⟩ := lfree_spec ht hu hne
    rw [nf_step ht hu hne]
    have hl := List.length_erase_of_mem hm
    exact (free_front hs hu hf).trans ((sws_nf ht hs k (by omega) fun c hc => hu c (List.mem_of_mem_erase hc)).cons _)
theorem sws_primes {t : List Int} (ht : TOk t) {u v : List Nat} (h : Sws t u v) (hu : ∀ a ∈ u, a < t.length) : PrSub t (nats v) (nats u) := by
  induction h with
  | refl => exact fun i hi => ⟨i, hi, rfl⟩
  | step h _ ih =>
    refine (ih fun a ha => hu a (h.perm.mem_iff.2 ha)).trans fun i hi => ?_
    obtain ⟨j, hj, _, hsw⟩ := past_sw ht.2 h hu i (by simpa using hi)
    refine ⟨j, by simpa using hj, ?_⟩
    unfold primeR
    rw [wn_natsU, wn_natsU]
    congr 1
    exact (hsw.nf ht _ rfl (pastW_ok (t := t) hu hj).1).symm
/-! The past of a position. -/
section
variable {t : List Int} {u : List Nat}
def tied (t : List Int) (u : List Nat) (k i : Nat) : Bool := tb (nth t (natAt u k)) (natAt u i)
/-- The masks of the positions before each one. -/
def posM (t : List Int) (u : List Nat) : List Int := pastL (tied t u) u.length
theorem pos_conv (h24 : u.length ≤ 24) : conv (clo (edgR t u)) = posM t u := by
  obtain ⟨e1, e2, e3⟩ := edg_facts (t := t) (u := u) h24
  have := past_conv (r := edgR t u) e2 (by omega) (T := tied t u) (fun i j hi => by
    rw [e1] at hi ⊢
    rw [e3 i j hi]; rfl)
  rw [this, e1]; rfl
theorem pos_rel (h24 : u.length ≤ 24) : isRel (clo (edgR t u)) = true := by
  obtain ⟨e1, e2, e3⟩ := edg_facts (t := t) (u := u) h24
  refine clo_rel e2 (by omega) fun i j hj => ?_
  by_cases hi : i < u.length
  · rw [e3 i j hi]; simp; omega
  · have : nth (edgR t u) i = 0 := by simp [nth, show ¬ i < (edgR t u).length by omega]
    rw [this]; simp
theorem posM_M (h24 : u.length ≤ 24) {i : Nat} (hi : i < u.length) : M (nth (posM t u) i) := pastL_M _ _ h24 i hi
theorem pos_last (h24 : u.length ≤ 24) {i : Nat} (hi : i < u.length) (b : Nat) : tb (nth (posM t u) i) b = true ↔ b = i ∨ ∃ j, j < i ∧ tied t u j i = true ∧ tb (nth (posM t u) j) b = true := by
  unfold posM
  rw [pastL_nth _ hi, tb_pr (M_pow1 (by omega)) b (fun k hk => pastL_M _ i (by omega) k hk), tb_pow1 (by omega)]
  simp only [decide_eq_true_eq]
  constructor
  · rintro (h | ⟨k, hk, hT, hb⟩)
    · exact .inl h.symm
    · exact .inr ⟨k, hk, hT, by rw [pastL_nth _ (show k < u.length by omega), ← pastL_nth _ hk]; exact hb⟩
  · rintro (h | ⟨k, hk, hT, hb⟩)
    · exact .inl h.symm
    · exact .inr ⟨k, hk, hT, by rw [pastL_nth _ (show k < u.length by omega), ← pastL_nth _ hk] at hb; exact hb⟩
theorem pos_le (h24 : u.length ≤ 24) : ∀ {i : Nat}, i < u.length → ∀ {b : Nat}, tb (nth (posM t u) i) b = true → b ≤ i := by
  intro i
  induction i using Nat.strongRecOn with
  | _ i ih =>
    intro hi b hb
    rcases (pos_last h24 hi b).1 hb with rfl | ⟨j, hj, _, h⟩
    · exact Nat.le_refl _
    · have := ih j hj (by omega) h; omega
theorem pos_first (h24 : u.length ≤ 24) : ∀ {i : Nat}, i < u.length → ∀ {b : Nat}, tb (nth (posM t u) i) b = true ↔ b = i ∨ ∃ j, b < j ∧ tb (nth (posM t u) i) j = true ∧ tied t u b j = true := by
  intro i
  induction i using Nat.strongRecOn with
  | _ i ih =>
    intro hi b
    have self : ∀ {i}, i < u.length → tb (nth (posM t u) i) i = true := fun {i} hi => (pos_last h24 hi i).2 (.inl rfl)
    constructor
    · intro h
      rcases (pos_last h24 hi b).1 h with rfl | ⟨j, hj, hT, hb⟩
      · exact .inl rfl
      · right
        rcases (ih j hj (by omega)).1 hb with rfl | ⟨m, hm, h1, h2⟩
        · exact ⟨i, hj, self hi, hT⟩
        · exact ⟨m, hm, (pos_last h24 hi m).2 (.inr ⟨j, hj, hT, h1⟩), h2⟩
    · rintro (rfl | ⟨j, hj, h1, h2⟩)
      · exact self hi
      · rcases (pos_last h24 hi j).1 h1 with rfl | ⟨m, hm, hT, hb⟩
        · exact (pos_last h24 hi b).2 (.inr ⟨b, hj, h2, self (by omega)⟩)
        · exact (pos_last h24 hi b).2 (.inr ⟨m, hm, hT, (ih m hm (by omega)).2 (.inr ⟨j, hj, hb, h2⟩)⟩)
/-- The letters at the positions of a mask, from a place on. -/
def selN (m : Int) (u : List Nat) (k : Nat) : List Nat := ((List.range u.length).filter fun j => decide (k ≤ j) && tb m j).map (natAt u)
theorem range_split {n k : Nat} (h : k ≤ n) : List.range n = List.range k ++ (List.range (n - k)).map (· + k) := by
  obtain ⟨d, rfl⟩ : ∃ d, n = k + d := ⟨n - k, by omega⟩
  rw [List.range_add, show k + d - k = d by omega]
  congr 1
  exact List.map_congr_left fun a _ => Nat.add_comm _ _
theorem sel_step {m : Int} {u : List Nat} {k : Nat} (h : k < u.length) : selN m u k = if tb m k then natAt u k :: selN m u (k + 1) else selN m u (k + 1) := by
  unfold selN
  rw [range_split (show k + 1 ≤ u.length from h), List.range_succ]
  simp only [List.filter_append, List.filter_cons, List.filter_nil, List.map_append]
  have e1 : (List.range k).filter (fun j => decide (k ≤ j) && tb m j) = [] := List.filter_eq_nil_iff.2 fun j hj => by
    rw [List.mem_range] at hj; simp; omega
  have e2 : (List.range k).filter (fun j => decide (k + 1 ≤ j) && tb m j) = [] := List.filter_eq_nil_iff.2 fun j hj => by
    rw [List.mem_range] at hj; simp; omega
  have e3 : ((List.range (u.length - (k + 1))).map (· + (k + 1))).filter (fun j => decide (k ≤ j) && tb m j) = ((List.range (u.length - (k + 1))).map (· + (k + 1))).filter (fun j => decide (k + 1 ≤ j) && tb m j) := by
    apply List.filter_congr
    intro j hj
    obtain ⟨i, _, rfl⟩ := List.mem_map.1 hj
    simp; omega
  rw [e1, e2, e3]
  cases tb m k <;> simp
theorem sel_end {m : Int} {u : List Nat} {k : Nat} (h : ∀ j, k ≤ j → tb m j = false) : selN m u k = [] := by
  unfold selN
  rw [List.map_eq_nil_iff, List.filter_eq_nil_iff]
  intro j hj
  by_cases hk : k ≤ j
  · simp [h j hk]
  · simp [hk]
/-- The scan from the back picks the past. -/
theorem scan_sel {n : Nat} (ht : ∀ a, a < n → M (nth t a)) (hs : ∀ a b, a < n → b < n → tb (nth t a) b = tb (nth t b) a) (hu : ∀ c ∈ u, c < n) (h24 : u.length ≤ 24) {i : Nat} (hi : i < u.length) :
    ∀ (k : Nat), k ≤ i → ∀ (m : Int), M m → (∀ a, a < n → (tb m a = true ↔ ∃ j, k ≤ j ∧ j < u.length ∧ tb (nth (posM t u) i) j = true ∧ tb (nth t (natAt u j)) a = true)) →
      scanN t (u.take k).reverse m (selN (nth (posM t u) i) u k) = selN (nth (posM t u) i) u 0
  | 0, _, m, _, _ => by simp [scanN]
  | k + 1, hk, m, hm, hinv => by
    have hku : k < u.length := by omega
    have hak := hu _ (natAt_mem hku)
    rw [take_rev hku, scanN]
    have hiff : tb m (natAt u k) = true ↔ tb (nth (posM t u) i) k = true := by
      rw [hinv _ hak, pos_first h24 hi]
      constructor
      · rintro ⟨j, h1, h2, h3, h4⟩
        right
        refine ⟨j, h1, h3, ?_⟩
        unfold tied
        rw [hs _ _ hak (hu _ (natAt_mem h2))]; exact h4
      · rintro (h | ⟨j, h1, h2, h3⟩)
        · omega
        · have hju := pos_le h24 hi h2
          refine ⟨j, h1, by omega, h2, ?_⟩
          unfold tied at h3
          rw [← hs _ _ hak (hu _ (natAt_mem (show j < u.length by omega)))]; exact h3
    have hst := sel_step (m := nth (posM t u) i) hku
    by_cases hb : tb m (natAt u k) = true
    · have hp := hiff.1 hb
      rw [if_pos hp] at hst
      rw [if_pos hb, ← hst]
      refine scan_sel ht hs hu h24 hi k (by omega) _ (M_or hm (ht _ hak)) fun a ha => ?_
      rw [tb_or hm (ht _ hak), Bool.or_eq_true, hinv a ha]
      constructor
      · rintro (⟨j, h1, h2, h3, h4⟩ | h)
        · exact ⟨j, by omega, h2, h3, h4⟩
        · exact ⟨k, Nat.le_refl _, hku, hp, h⟩
      · rintro ⟨j, h1, h2, h3, h4⟩
        by_cases e : j = k
        · subst e; exact .inr h4
        · exact .inl ⟨j, by omega, h2, h3, h4⟩
    · have hp : ¬ tb (nth (posM t u) i) k = true := fun h => hb (hiff.2 h)
      rw [if_neg hp] at hst
      rw [if_neg hb, ← hst]
      refine scan_sel ht hs hu h24 hi k (by omega) _ hm fun a ha => ?_
      rw [hinv a ha]
      constructor
      · rintro ⟨j, h1, h2, h3, h4⟩
        exact ⟨j, by omega, h2, h3, h4⟩
      · rintro ⟨j, h1, h2, h3, h4⟩
        by_cases e : j = k
        · subst e; exact absurd h3 hp
        · exact ⟨j, by omega, h2, h3, h4⟩
theorem past_sel {n : Nat} (ht : ∀ a, a < n → M (nth t a)) (hs : ∀ a b, a < n → b < n → tb (nth t a) b = tb (nth t b) a) (hu : ∀ c ∈ u, c < n) (h24 : u.length ≤ 24) {i : Nat} (hi : i < u.length) :
    pastW t u i = selN (nth (posM t u) i) u 0 := by
  have hself : tb (nth (posM t u) i) i = true := (pos_last h24 hi i).2 (.inl rfl)
  have e : selN (nth (posM t u) i) u i = [natAt u i] := by
    rw [sel_step hi, if_pos hself, sel_end fun j hj => ?_]
    cases h : tb (nth (posM t u) i) j
    · rfl
    · have := pos_le h24 hi h; omega
  unfold pastW
  rw [← e]
  refine scan_sel ht hs hu h24 hi i (Nat.le_refl _) _ (ht _ (hu _ (natAt_mem hi))) fun a ha => ?_
  constructor
  · intro h; exact ⟨i, Nat.le_refl _, hi, hself, h⟩
  · rintro ⟨j, h1, h2, h3, h4⟩
    have := pos_le h24 hi h3
    obtain rfl : j = i := by omega
    exact h4
end
/-- The letters at the members of a mask. -/
theorem sel_bits {m : Int} {u : List Nat} (h24 : u.length ≤ 24) (hm : ∀ i, u.length ≤ i → tb m i = false) : (bitsOf m).map (fun y => nth (nats u) y.toNat) = nats (selN m u 0) := by
  rw [bits_eq (n := u.length) (by omega) hm]
  unfold selN nats
  simp only [List.map_map, Nat.zero_le, decide_true, Bool.true_and]
  apply List.map_congr_left
  intro j hj
  have hj' : j < u.length := by
    have := (List.mem_filter.1 hj).1
    simpa using this
  have := nats_nth hj'
  unfold nats at this
  simpa using this
/-! The only last letter of a prime. -/
theorem isFree_app (t : List Int) : ∀ (r : List Nat) (c a : Nat), isFree t (r ++ [c]) a = (isFree t r a || (c == a && r.all fun b => !tb (nth t b) a))
  | [], c, a => by simp [isFree]
  | b :: r, c, a => by
    have ih := isFree_app t r c a
    simp only [List.cons_append, isFree, ih, List.all_cons]
    cases (b == a) <;> cases tb (nth t b) a <;> cases isFree t r a <;> cases (c == a) <;> simp
theorem scan_last {t : List Int} {n : Nat} (ht : ∀ a, a < n → M (nth t a)) (b0 : Nat) : ∀ (r : List Nat) (m : Int) (acc : List Nat), (∀ c ∈ r, c < n) → M m → (∀ a, a < n → tb m a = acc.any fun b => tb (nth t b) a) → (∀ a, isFree t acc.reverse a = (a == b0)) →
    ∀ a, isFree t (scanN t r m acc).reverse a = (a == b0)
  | [], m, acc, _, _, _, h => by simpa [scanN] using h
  | c :: r, m, acc, hr, hm, hi, h => by
    have hc := hr c (by simp)
    have hr' : ∀ c ∈ r, c < n := fun c hc => hr c (by simp [hc])
    rw [scanN]
    split
    · rename_i hb
      refine scan_last ht b0 r _ _ hr' (M_or hm (ht c hc)) (fun a ha => ?_) fun a => ?_
      · rw [tb_or hm (ht c hc), hi a ha, List.any_cons, Bool.or_comm]
      · rw [List.reverse_cons, isFree_app, h a]
        by_cases e : c = a
        · subst e
          have hany := hb
          rw [hi c hc] at hany
          have : acc.reverse.all (fun b => !tb (nth t b) c) = false := by
            rw [List.all_reverse, ← Bool.not_eq_true, List.all_eq_true]
            intro hall
            obtain ⟨b, hb1, hb2⟩ := List.any_eq_true.1 hany
            have := hall b hb1
            rw [hb2] at this; cases this
          rw [this]; simp
        · have : (c == a) = false := by simpa using e
          rw [this]; simp
    · exact scan_last ht b0 r m acc hr' hm hi h
theorem past_last {t : List Int} {n : Nat} (ht : ∀ a, a < n → M (nth t a)) {u : List Nat} (hu : ∀ c ∈ u, c < n) {i : Nat} (hi : i < u.length) (a : Nat) : isFree t (pastW t u i).reverse a = (a == natAt u i) := by
  unfold pastW
  refine scan_last ht _ _ _ _ (fun c hc => hu c (List.mem_of_mem_take (List.mem_reverse.1 hc))) (ht _ (hu _ (natAt_mem hi))) (fun a _ => by simp) (fun a => ?_) a
  simp only [List.reverse_cons, List.reverse_nil, List.nil_append, isFree, Bool.and_false, Bool.or_false]
  by_cases e : natAt u i = a
  · subst e; rfl
  · have e1 : (natAt u i == a) = false := by simpa using e
    have e2 : (a == natAt u i) = false := by simpa using fun h => e h.symm
    rw [e1, e2]
theorem Sw.appl {t : List Int} (w : List Nat) {u v : List Nat} (h : Sw t u v) : Sw t (w ++ u) (w ++ v) := by
  induction w with
  | nil => exact h
  | cons b w ih => exact .cons b ih
theorem Sw.appr {t : List Int} (w : List Nat) {u v : List Nat} (h : Sw t u v) : Sw t (u ++ w) (v ++ w) := by
  induction h with
  | refl => exact .refl _
  | sw x y u h1 h2 => exact .sw x y (u ++ w) h1 h2
  | cons b _ ih => exact .cons b ih
theorem Sw.rev {t : List Int} {u v : List Nat} (h : Sw t u v) : Sw t u.reverse v.reverse := by
  induction h with
  | refl => exact .refl _
  | sw x y u h1 h2 =>
    simp only [List.reverse_cons, List.append_assoc, List.singleton_append]
    exact Sw.appl _ (.sw y x [] h2 h1)
  | cons b _ ih => simp only [List.reverse_cons]; exact ih.appr _
theorem Sws.rfree {t : List Int} {u v : List Nat} (h : Sws t u v) (a : Nat) : isFree t u.reverse a = isFree t v.reverse a := by
  induction h with
  | refl => rfl
  | step h _ ih => exact (h.rev.free a).trans ih
/-- The alphabets' facts that are used here. -/
structure SymT (t : List Int) : Prop where
  ok : TOk t
  sym : ∀ a b, a < t.length → b < t.length → tb (nth t a) b = tb (nth t b) a
/-- Rows that are primes: one last letter, which stands last. -/
def LastOk (t : List Int) (r : List Int) : Prop := ((lfree t (wn r).reverse : Nat) : Int) = nth r (r.length - 1)
theorem prime_last {t : List Int} (hT : SymT t) {w : List Int} (hw : overW t.length w = true) {i : Nat} (hi : i < w.length) : LastOk t (primeR t w i) := by
  obtain ⟨e, hu, h24⟩ := overW_wn hw
  have hl := wn_len w
  have hi' : i < (wn w).length := by omega
  obtain ⟨a1, a2, a3⟩ := pastW_ok (t := t) hu.2 hi'
  have hs := sws_nf hT.ok hT.sym _ rfl a1
  have hpm := nf_perm hT.ok _ rfl a1
  unfold LastOk primeR
  rw [wn_natsU]
  generalize hv : nf t (pastW t (wn w) i) = v at *
  have hv0 : v ≠ [] := fun h => by rw [h] at hpm; have := hpm.length_eq; simp at this; omega
  have hfree : ∀ a, isFree t v.reverse a = (a == natAt (wn w) i) := fun a => by rw [← hs.rfree a]; exact past_last hT.ok.2 hu.2 hi' a
  have hvl : ∀ a ∈ v.reverse, a < t.length := fun a ha => a1 a (hpm.mem_iff.1 (List.mem_reverse.1 ha))
  obtain ⟨_, f2, _⟩ := lfree_spec hT.ok hvl (by simpa using hv0)
  rw [hfree] at f2
  have e1 : lfree t v.reverse = natAt (wn w) i := by simpa using f2
  have hlen : 0 < v.length := List.length_pos_iff.2 hv0
  have hlast : isFree t v.reverse (natAt v (v.length - 1)) = true := by
    have : v.reverse = natAt v (v.length - 1) :: v.reverse.tail := by
      have h0 : v.reverse ≠ [] := by simpa using hv0
      rw [← List.cons_head_tail h0]
      simp only [List.tail_cons, List.cons.injEq, and_true]
      rw [List.head_reverse, natAt_at (by omega), List.getLast_eq_getElem]
    rw [this]; simp [isFree]
  rw [hfree] at hlast
  have e2 : natAt v (v.length - 1) = natAt (wn w) i := by simpa using hlast
  rw [e1, ← e2, nats_length, nats_nth (by omega)]
/-! Rows in order. -/
def compK (l : List (List Int)) : Nat → List (List Int)
  | 0 => []
  | k + 1 => if 0 < k ∧ nthR l k = nthR l (k - 1) then compK l k else compK l k ++ [nthR l k]
theorem compK_len (l : List (List Int)) : ∀ k, (compK l k).length ≤ k
  | 0 => by simp [compK]
  | k + 1 => by
    have := compK_len l k
    rw [compK]; split
    · omega
    · simp; omega
theorem sorted_le {c : List Int → List Int → Int} {l : List (List Int)} (hs : l.Pairwise fun x y => c x y ≤ 0) {i j : Nat} (hij : i < j) (hj : j < l.length) : c (nthR l i) (nthR l j) ≤ 0 := by
  rw [nthR_at (by omega), nthR_at hj]
  exact List.pairwise_iff_getElem.1 hs i j (by omega) hj hij
theorem compK_ok {c : List Int → List Int → Int} (hc : TotC c) {l : List (List Int)} (hs : l.Pairwise fun x y => c x y ≤ 0) : ∀ k, k ≤ l.length → (compK l k).Pairwise (fun x y => c x y < 0) ∧ ∀ x, x ∈ compK l k ↔ ∃ i, i < k ∧ x = nthR l i
  | 0, _ => by simp [compK]
  | k + 1, hk => by
    obtain ⟨h1, h2⟩ := compK_ok hc hs k (by omega)
    have hx : ∀ x, (∃ i, i < k + 1 ∧ x = nthR l i) ↔ (∃ i, i < k ∧ x = nthR l i) ∨ x = nthR l k := fun x => by
      constructor
      · rintro ⟨i, hi, rfl⟩
        by_cases e : i = k
        · subst e; exact .inr rfl
        · exact .inl ⟨i, by omega, rfl⟩
      · rintro (⟨i, hi, rfl⟩ | rfl)
        · exact ⟨i, by omega, rfl⟩
        · exact ⟨k, by omega, rfl⟩
    rw [compK]
    split
    · rename_i hd
      refine ⟨h1, fun x => ?_⟩
      rw [hx, h2]
      constructor
      · exact .inl
      · rintro (h | rfl)
        · exact h
        · exact ⟨k - 1, by omega, hd.2⟩
    · rename_i hd
      refine ⟨List.pairwise_append.2 ⟨h1, by simp, fun y hy z hz => ?_⟩, fun x => ?_⟩
      · simp only [List.mem_singleton] at hz
        subst hz
        obtain ⟨i, hi, rfl⟩ := (h2 y).1 hy
        have hle := sorted_le hs hi (show k < l.length by omega)
        by_cases e : c (nthR l i) (nthR l k) = 0
        · exfalso
          have heq := hc.zero _ _ e
          apply hd
          refine ⟨by omega, ?_⟩
          by_cases e2 : i = k - 1
          · rw [← e2]; exact heq.symm
          · have g1 := sorted_le hs (show i < k - 1 by omega) (show k - 1 < l.length by omega)
            have g2 := sorted_le hs (show k - 1 < k by omega) (show k < l.length by omega)
            rw [heq] at g1
            exact hc.asym g1 g2
        · omega
      · rw [hx, List.mem_append, h2, List.mem_singleton]
theorem strict_ext {A B : List (List Int)} (hA : Strict A) (hB : Strict B) (h : ∀ x, x ∈ A ↔ x ∈ B) : A = B := by
  have hp := (List.perm_ext_iff_of_nodup (strict_nodup hA) (strict_nodup hB)).2 fun x => h x
  have e1 : sortR cmpW A = B := sortR_eq cmpW_tot hp (hB.imp fun h => by omega)
  have e2 : sortR cmpW A = A := sortR_eq cmpW_tot (.refl _) (hA.imp fun h => by omega)
  rw [← e2, e1]
theorem primesRow_iff {t : List Int} {w : List Int} {acc : List (List Int)} : ∀ k {r : List Int}, r ∈ primesRow t w acc k ↔ r ∈ acc ∨ ∃ i, i < k ∧ r = primeR t w i
  | 0, r => by simp [primesRow]
  | k + 1, r => by
    rw [primesRow_succ, putS_mem, primesRow_iff k]
    constructor
    · rintro (rfl | h | ⟨i, hi, rfl⟩)
      · exact .inr ⟨k, by omega, rfl⟩
      · exact .inl h
      · exact .inr ⟨i, by omega, rfl⟩
    · rintro (h | ⟨i, hi, rfl⟩)
      · exact .inr (.inl h)
      · by_cases e : i = k
        · subst e; exact .inl rfl
        · exact .inr (.inr ⟨i, by omega, rfl⟩)
theorem primesS_iff {t : List Int} {rs : List (List Int)} : ∀ k, k ≤ rs.length → ∀ {r : List Int}, r ∈ primesS t rs k ↔ ∃ j, j < k ∧ ∃ i, i < (nthR rs j).length ∧ r = primeR t (nthR rs j) i
  | 0, _, r => by simp [primesS]
  | k + 1, hk, r => by
    rw [primesS_succ (by omega), primesRow_iff, primesS_iff k (by omega)]
    constructor
    · rintro (⟨j, hj, h⟩ | ⟨i, hi, rfl⟩)
      · exact ⟨j, by omega, h⟩
      · exact ⟨k, by omega, i, hi, rfl⟩
    · rintro ⟨j, hj, i, hi, rfl⟩
      by_cases e : j = k
      · subst e; exact .inr ⟨i, hi, rfl⟩
      · exact .inl ⟨j, by omega, i, hi, rfl⟩
/-- The primes of a word, by the positions of its normal form. -/
def primesI (t : List Int) (w : List Int) : List (List Int) := (List.range w.length).map fun i => primeR t (nats (nf t (wn w))) i
def primesA (t : List Int) (rs : List (List Int)) (k : Nat) : List (List Int) := (rs.take k).flatMap (primesI t)
theorem primesA_succ {t : List Int} {rs : List (List Int)} {k : Nat} (h : k < rs.length) : primesA t rs (k + 1) = primesA t rs k ++ primesI t (nthR rs k) := by
  unfold primesA
  rw [List.take_succ_eq_append_getElem h, List.flatMap_append, nthR_at h]; simp
theorem nfw_over {t : List Int} (ht : TOk t) {w : List Int} (hw : overW t.length w = true) : overW t.length (nats (nf t (wn w))) = true ∧ (nats (nf t (wn w))).length = w.length := by
  obtain ⟨e, hu, h24⟩ := overW_wn hw
  have hp := nf_perm ht _ rfl hu.2
  have hl := hp.length_eq
  rw [wn_len] at hl
  exact ⟨overW_of_nats (fun c hc => hu.2 c (hp.mem_iff.1 hc)) (by rw [hp.length_eq]; exact h24), by simp; exact hl⟩
theorem primesI_ok {t : List Int} (hT : SymT t) {w : List Int} (hw : overW t.length w = true) : (primesI t w).length = w.length ∧ ∀ r ∈ primesI t w, PrOk t.length r ∧ LastOk t r := by
  refine ⟨by simp [primesI], fun r hr => ?_⟩
  obtain ⟨i, hi, rfl⟩ := List.mem_map.1 hr
  rw [List.mem_range] at hi
  obtain ⟨o1, o2⟩ := nfw_over hT.ok hw
  exact ⟨primeR_ok hT.ok o1 (by omega), prime_last hT o1 (by omega)⟩
theorem primesI_iff {t : List Int} (hT : SymT t) {w : List Int} (hw : overW t.length w = true) {r : List Int} : r ∈ primesI t w ↔ ∃ i, i < w.length ∧ r = primeR t w i := by
  obtain ⟨e, hu, h24⟩ := overW_wn hw
  have hs := sws_nf hT.ok hT.sym _ rfl hu.2
  have hpm := nf_perm hT.ok _ rfl hu.2
  obtain ⟨o1, o2⟩ := nfw_over hT.ok hw
  have p1 := sws_primes hT.ok hs hu.2
  have p2 := sws_primes hT.ok hs.symm fun a ha => hu.2 a (hpm.mem_iff.1 ha)
  rw [← e] at p1 p2
  unfold primesI
  rw [List.mem_map]
  constructor
  · rintro ⟨i, hi, rfl⟩
    rw [List.mem_range] at hi
    obtain ⟨j, hj, h⟩ := p1 i (by omega)
    exact ⟨j, hj, h⟩
  · rintro ⟨i, hi, rfl⟩
    obtain ⟨j, hj, h⟩ := p2 i hi
    exact ⟨j, List.mem_range.2 (by omega), h.symm⟩
theorem primesA_ok {t : List Int} (hT : SymT t) {rs : List (List Int)} (hr : ∀ r ∈ rs, overW t.length r = true) : ∀ k, k ≤ rs.length → (primesA t rs k).length ≤ 24 * k ∧ ∀ r ∈ primesA t rs k, PrOk t.length r ∧ LastOk t r
  | 0, _ => by simp [primesA]
  | k + 1, hk => by
    obtain ⟨h1, h2⟩ := primesA_ok hT hr k (by omega)
    have hw := hr _ (nthR_mem (show k < rs.length by omega))
    obtain ⟨g1, g2⟩ := primesI_ok hT hw
    have h24 := overW_len hw
    rw [primesA_succ (by omega)]
    refine ⟨by rw [List.length_append]; omega, fun r hr => ?_⟩
    rcases List.mem_append.1 hr with hr | hr
    · exact h2 r hr
    · exact g2 r hr
/-- The program's primes are the reference's. -/
theorem primes_same {t : List Int} (hT : SymT t) {rs : List (List Int)} (hr : ∀ r ∈ rs, overW t.length r = true) : compK (sortR cmpW (primesA t rs rs.length)) (sortR cmpW (primesA t rs rs.length)).length = primesS t rs rs.length := by
  obtain ⟨h1, h2⟩ := compK_ok cmpW_tot (sortR_sorted cmpW_tot (primesA t rs rs.length)) _ (Nat.le_refl _)
  refine strict_ext h1 (primesS_ok hT.ok hr _ (Nat.le_refl _)).st fun x => ?_
  rw [h2, primesS_iff _ (Nat.le_refl _)]
  have e : (∃ i, i < (sortR cmpW (primesA t rs rs.length)).length ∧ x = nthR (sortR cmpW (primesA t rs rs.length)) i) ↔ x ∈ primesA t rs rs.length := by
    rw [← sortR_mem (c := cmpW), List.mem_iff_getElem]
    constructor
    · rintro ⟨i, hi, rfl⟩; exact ⟨i, hi, (nthR_at hi).symm⟩
    · rintro ⟨i, hi, rfl⟩; exact ⟨i, hi, (nthR_at hi).symm⟩
  rw [e]
  unfold primesA
  rw [List.take_length, List.mem_flatMap]
  constructor
  · rintro ⟨w, hw, hx⟩
    obtain ⟨i, hi, rfl⟩ := (primesI_iff hT (hr w hw)).1 hx
    obtain ⟨j, hj, rfl⟩ := List.mem_iff_getElem.1 hw
    exact ⟨j, hj, i, by rw [nthR_at hj]; exact hi, by rw [nthR_at hj]⟩
  · rintro ⟨j, hj, i, hi, rfl⟩
    have hm := nthR_mem hj
    exact ⟨_, hm, (primesI_iff hT (hr _ hm)).2 ⟨i, hi, rfl⟩⟩
end Go.AM
