/-
  Several texts in one: FnVr FnVs FnVt FnWf FnWg FnWh.
-/
import Derived.Test.YthabclhldlikfaaGreatDoorFnMgK
import Derived.Test.YthabclhldlikfaaGreatDoorFnMgR
import Derived.Test.YthabclhldlikfaaGreatDoorFnMgE
import Derived.Test.YthabclhldlikfaaGreatDoorFnUi
import Derived.Test.YthabclhldlikfaaGreatDoorAmWk
import Derived.Test.YthabclhldlikfaaGreatDoorFnMgM
import Derived.Test.YthabclhldlikfaaGreatDoorFnBig
set_option linter.unusedVariables false
set_option linter.unusedSimpArgs false
set_option linter.unusedSectionVars false
set_option maxRecDepth 100000
set_option maxHeartbeats 1600000
namespace Go.AM
open Go.Proofs
/-! Letters sorted by their places. -/
def insN (a : Nat) : List Nat → List Nat
  | [] => [a]
  | b :: S => if a ≤ b then a :: b :: S else b :: insN a S
def sortN : List Nat → List Nat
  | [] => []
  | a :: L => insN a (sortN L)
theorem insN_perm (a : Nat) : ∀ S, (insN a S).Perm (a :: S)
  | [] => .refl _
  | b :: S => by
    rw [insN]; split
    · exact .refl _
    · exact ((insN_perm a S).cons b).trans (.swap a b S)
theorem sortN_perm : ∀ L, (sortN L).Perm L
  | [] => .refl _
  | a :: L => (insN_perm a _).trans ((sortN_perm L).cons a)
theorem insN_sorted (a : Nat) : ∀ {S : List Nat}, S.Pairwise (· ≤ ·) → (insN a S).Pairwise (· ≤ ·)
  | [], _ => by simp [insN]
  | b :: S, h => by
    rw [insN]
    obtain ⟨h1, h2⟩ := List.pairwise_cons.1 h
    split
    · rename_i hab
      refine List.pairwise_cons.2 ⟨fun c hc => ?_, h⟩
      rcases List.mem_cons.1 hc with rfl | hc
      · exact hab
      · have := h1 c hc; omega
    · rename_i hab
      refine List.pairwise_cons.2 ⟨fun c hc => ?_, insN_sorted a h2⟩
      rcases List.mem_cons.1 ((insN_perm a S).mem_iff.1 hc) with rfl | hc
      · omega
      · exact h1 c hc
theorem sortN_sorted : ∀ L, (sortN L).Pairwise (· ≤ ·)
  | [] => List.Pairwise.nil
  | a :: L => insN_sorted a (sortN_sorted L)
theorem sortN_eq {L M : List Nat} (hp : L.Perm M) (hM : M.Pairwise (· ≤ ·)) : sortN L = M :=
  ((sortN_perm L).trans hp).eq_of_pairwise (le := (· ≤ ·)) (fun a b _ _ h1 h2 => Nat.le_antisymm h1 h2) (sortN_sorted L) hM
section
variable {t : List Int} {v : List Nat}
/-- Independent letters at two places. -/
def indP (t : List Int) (v : List Nat) (a b : Nat) : Prop := tb (nth t (natAt v a)) (natAt v b) = false ∧ tb (nth t (natAt v b)) (natAt v a) = false
theorem sws_ins (a : Nat) : ∀ {S : List Nat}, (∀ b ∈ S, b < a → indP t v a b) → Sws t (natAt v a :: S.map (natAt v)) ((insN a S).map (natAt v))
  | [], _ => .refl _
  | b :: S, h => by
    rw [insN]; split
    · exact .refl _
    · rename_i hab
      obtain ⟨i1, i2⟩ := h b (by simp) (by omega)
      simp only [List.map_cons]
      exact .step (.sw _ _ _ i1 i2) ((sws_ins a fun c hc => h c (by simp [hc])).cons _)
theorem sws_sort : ∀ {L : List Nat}, L.Pairwise (fun a b => b < a → indP t v a b) → Sws t (L.map (natAt v)) ((sortN L).map (natAt v))
  | [], _ => .refl _
  | a :: L, h => by
    obtain ⟨h1, h2⟩ := List.pairwise_cons.1 h
    rw [sortN, List.map_cons]
    exact ((sws_sort h2).cons _).trans (sws_ins a fun b hb hba => h1 b ((sortN_perm L).mem_iff.1 hb) hba)
end
theorem map_natAt (v : List Nat) : (List.range v.length).map (natAt v) = v := by
  apply List.ext_getElem
  · simp
  · intro i h1 h2; simp [natAt_at h2]
theorem range_sorted (n : Nat) : (List.range n).Pairwise (· ≤ ·) := List.pairwise_lt_range.imp fun h => Nat.le_of_lt h
/-! Prefixes. -/
def Pre (t : List Int) (u v : List Nat) : Prop := ∃ r, Sws t (u ++ r) v
theorem Sws.free {t : List Int} {u v : List Nat} (h : Sws t u v) (a : Nat) : isFree t u a = isFree t v a := by
  induction h with
  | refl => rfl
  | step h _ ih => exact (h.free a).trans ih
theorem Sws.erase {t : List Int} {u v : List Nat} (h : Sws t u v) (a : Nat) : Sws t (u.erase a) (v.erase a) := by
  induction h with
  | refl => exact .refl _
  | step h _ ih => exact .step (h.erase a) ih
theorem Sws.appr {t : List Int} (w : List Nat) {u v : List Nat} (h : Sws t u v) : Sws t (u ++ w) (v ++ w) := by
  induction h with
  | refl => exact .refl _
  | step h _ ih => exact .step (h.appr w) ih
theorem Pre.trans {t : List Int} {u v w : List Nat} (h1 : Pre t u v) (h2 : Pre t v w) : Pre t u w := by
  obtain ⟨r, hr⟩ := h1
  obtain ⟨s, hs⟩ := h2
  exact ⟨r ++ s, by rw [← List.append_assoc]; exact (hr.appr s).trans hs⟩
theorem Pre.of_sws {t : List Int} {u v : List Nat} (h : Sws t u v) : Pre t u v := ⟨[], by rw [List.append_nil]; exact h⟩
theorem Pre.len {t : List Int} {u v : List Nat} (h : Pre t u v) : u.length ≤ v.length := by
  obtain ⟨r, hr⟩ := h
  have := hr.perm.length_eq
  rw [List.length_append] at this; omega
theorem Pre.anti {t : List Int} {u v : List Nat} (h1 : Pre t u v) (h2 : Pre t v u) : Sws t u v := by
  have hl := h2.len
  obtain ⟨r, hr⟩ := h1
  have := hr.perm.length_eq
  rw [List.length_append] at this
  obtain rfl : r = [] := List.length_eq_zero_iff.1 (by omega)
  rw [List.append_nil] at hr; exact hr
theorem Pre.mem {t : List Int} {u v : List Nat} (h : Pre t u v) {a : Nat} (ha : a ∈ u) : a ∈ v := by
  obtain ⟨r, hr⟩ := h
  exact hr.perm.mem_iff.1 (by simp [ha])
theorem cut_sws {t : List Int} (hT : SymT t) : ∀ {u v r : List Nat}, (∀ a ∈ v, a < t.length) → cutN t u v = some r → Sws t v (u ++ r)
  | [], v, r, _, h => by
    rw [cutN, Option.some.injEq] at h
    subst h; exact .refl _
  | a :: u, v, r, hv, h => by
    rw [cutN] at h
    split at h
    · rename_i hf
      exact (free_front hT.sym hv hf).trans ((cut_sws hT (fun c hc => hv c (List.mem_of_mem_erase hc)) h).cons a)
    · cases h
theorem sws_cut {t : List Int} : ∀ {u v r : List Nat}, Sws t (u ++ r) v → (cutN t u v).isSome = true
  | [], v, r, _ => by simp [cutN]
  | a :: u, v, r, h => by
    have hf : isFree t v a = true := by rw [← h.free a]; simp [isFree]
    have he := h.erase a
    simp only [List.cons_append, List.erase_cons_head] at he
    rw [cutN, if_pos hf]
    exact sws_cut he
theorem within_iff {t : List Int} (hT : SymT t) {u v : List Nat} (hv : ∀ a ∈ v, a < t.length) : withinN t u v = true ↔ Pre t u v := by
  unfold withinN
  constructor
  · intro h
    obtain ⟨r, hr⟩ := Option.isSome_iff_exists.1 h
    exact ⟨r, (cut_sws hT hv hr).symm⟩
  · rintro ⟨r, hr⟩; exact sws_cut hr
/-! Pasts of positions. -/
def pkP (p : Nat → Bool) (v : List Nat) : List Nat := ((List.range v.length).filter p).map (natAt v)
theorem sel_pkP (m : Int) (v : List Nat) : selN m v 0 = pkP (tb m) v := by
  unfold selN pkP
  simp
theorem pkP_all (v : List Nat) : pkP (fun _ => true) v = v := by
  unfold pkP
  rw [List.filter_eq_self.2 (by simp)]; exact map_natAt v
section
variable {t : List Int} (hT : SymT t) {v : List Nat} (hv : ∀ c ∈ v, c < t.length) (h24 : v.length ≤ 24)
include hT hv
theorem pre_sel {A B : Nat → Bool} (hAB : ∀ k, A k = true → B k = true) (hcl : ∀ k l, k < l → l < v.length → A l = true → B k = true → tied t v k l = true → A k = true) : Pre t (pkP A v) (pkP B v) := by
  refine ⟨pkP (fun k => B k && !A k) v, ?_⟩
  have hL : (((List.range v.length).filter A) ++ ((List.range v.length).filter fun k => B k && !A k)).Pairwise (fun a b => b < a → indP t v a b) := by
    refine List.pairwise_append.2 ⟨?_, ?_, ?_⟩
    · exact (List.pairwise_lt_range.sublist List.filter_sublist).imp fun h h' => by omega
    · exact (List.pairwise_lt_range.sublist List.filter_sublist).imp fun h h' => by omega
    · intro a ha b hb hba
      obtain ⟨ha1, ha2⟩ := List.mem_filter.1 ha
      obtain ⟨hb1, hb2⟩ := List.mem_filter.1 hb
      rw [List.mem_range] at ha1 hb1
      simp only [Bool.and_eq_true, Bool.not_eq_true'] at hb2
      have hno : tied t v b a = false := by
        cases h : tied t v b a
        · rfl
        · have := hcl b a hba ha1 ha2 hb2.1 h
          rw [hb2.2] at this; cases this
      have h1 : tb (nth t (natAt v b)) (natAt v a) = false := hno
      exact ⟨by rw [hT.sym _ _ (hv _ (natAt_mem ha1)) (hv _ (natAt_mem hb1))]; exact h1, h1⟩
  have hs := sws_sort hL
  have hp : (((List.range v.length).filter A) ++ ((List.range v.length).filter fun k => B k && !A k)).Perm ((List.range v.length).filter B) := by
    refine (List.perm_ext_iff_of_nodup ?_ (List.nodup_range.sublist List.filter_sublist)).2 fun k => ?_
    · refine List.nodup_append.2 ⟨List.nodup_range.sublist List.filter_sublist, List.nodup_range.sublist List.filter_sublist, fun a ha b hb e => ?_⟩
      subst e
      have h1 := (List.mem_filter.1 ha).2
      have h2 := (List.mem_filter.1 hb).2
      simp [h1] at h2
    · simp only [List.mem_append, List.mem_filter, List.mem_range, Bool.and_eq_true, Bool.not_eq_true']
      constructor
      · rintro (⟨h1, h2⟩ | ⟨h1, h2, h3⟩)
        · exact ⟨h1, hAB k h2⟩
        · exact ⟨h1, h2⟩
      · rintro ⟨h1, h2⟩
        cases h3 : A k
        · exact .inr ⟨h1, h2, rfl⟩
        · exact .inl ⟨h1, rfl⟩
  rw [sortN_eq hp ((range_sorted _).sublist List.filter_sublist), List.map_append] at hs
  exact hs
include h24
theorem past_eq {i : Nat} (hi : i < v.length) : pastW t v i = pkP (tb (nth (posM t v) i)) v := by
  rw [past_sel hT.ok.2 hT.sym hv h24 hi, sel_pkP]
theorem pos_trans {i : Nat} (hi : i < v.length) : ∀ {j k : Nat}, tb (nth (posM t v) i) j = true → tb (nth (posM t v) j) k = true → tb (nth (posM t v) i) k = true := by
  induction i using Nat.strongRecOn with
  | _ i ih =>
    intro j k h1 h2
    rcases (pos_last h24 hi j).1 h1 with rfl | ⟨m, hm, hT', hb⟩
    · exact h2
    · exact (pos_last h24 hi k).2 (.inr ⟨m, hm, hT', ih m hm (by omega) hb h2⟩)
theorem prime_pre {i : Nat} (hi : i < v.length) : Pre t (pastW t v i) v := by
  have h := pre_sel hT hv (A := tb (nth (posM t v) i)) (B := fun _ => true) (fun _ _ => rfl) (fun k l hkl hl hA _ htd => (pos_first h24 hi).2 (.inr ⟨l, hkl, hA, htd⟩))
  rw [pkP_all, ← past_eq hT hv h24 hi] at h
  exact h
theorem prime_le {i j : Nat} (hi : i < v.length) (hj : tb (nth (posM t v) i) j = true) : Pre t (pastW t v j) (pastW t v i) := by
  have hji : j < v.length := by have := pos_le h24 hi hj; omega
  have h := pre_sel hT hv (A := tb (nth (posM t v) j)) (B := tb (nth (posM t v) i)) (fun k hk => pos_trans hT hv h24 hi hj hk) (fun k l hkl hl hA _ htd => (pos_first h24 hji).2 (.inr ⟨l, hkl, hA, htd⟩))
  rw [← past_eq hT hv h24 hi, ← past_eq hT hv h24 hji] at h
  exact h
theorem past_lt {i j : Nat} (hi : i < v.length) (hj : tb (nth (posM t v) i) j = true) (hne : j ≠ i) : (pastW t v j).length < (pastW t v i).length := by
  have hle := pos_le h24 hi hj
  have hji : j < v.length := by omega
  rw [past_eq hT hv h24 hi, past_eq hT hv h24 hji]
  unfold pkP
  rw [List.length_map, List.length_map]
  have gen : ∀ (l : List Nat) (p q : Nat → Bool), (∀ k, p k = true → q k = true) → (l.filter p).length ≤ (l.filter q).length ∧ (i ∈ l → p i = false → q i = true → (l.filter p).length < (l.filter q).length) := by
    intro l p q hpq
    induction l with
    | nil => exact ⟨Nat.le_refl _, fun h => by cases h⟩
    | cons a l ih =>
      rw [List.filter_cons, List.filter_cons]
      refine ⟨?_, fun h h1 h2 => ?_⟩
      · cases hp : p a
        · cases hq : q a
          · simpa using ih.1
          · simp; have := ih.1; omega
        · rw [hpq a hp]; simpa using ih.1
      · rcases List.mem_cons.1 h with rfl | h
        · rw [h1, h2]; simp; have := ih.1; omega
        · have := ih.2 h h1 h2
          cases hp : p a
          · cases hq : q a
            · simpa using this
            · simp; omega
          · rw [hpq a hp]; simpa using this
  refine (gen _ _ _ fun k hk => pos_trans hT hv h24 hi hj hk).2 (List.mem_range.2 hi) ?_ ((pos_last h24 hi i).2 (.inl rfl))
  cases h : tb (nth (posM t v) j) i
  · rfl
  · have := pos_le h24 hji h; omega
end
theorem nf_len {t : List Int} (hT : SymT t) {u : List Nat} (hu : ∀ a ∈ u, a < t.length) : (nf t u).length = u.length := (nf_perm hT.ok _ rfl hu).length_eq
/-- Positions with the same prime are the same. -/
theorem prime_inj {t : List Int} (hT : SymT t) (hrefl : ∀ a, a < t.length → tb (nth t a) a = true) {v : List Nat} (hv : ∀ c ∈ v, c < t.length) (h24 : v.length ≤ 24) {i j : Nat} (hij : i < j) (hj : j < v.length) (h : nf t (pastW t v i) = nf t (pastW t v j)) : False := by
  have hi : i < v.length := by omega
  have o1 := (pastW_ok (t := t) hv hi).1
  have o2 := (pastW_ok (t := t) hv hj).1
  have hs : Sws t (pastW t v i) (pastW t v j) := (sws_nf hT.ok hT.sym _ rfl o1).trans (by rw [h]; exact (sws_nf hT.ok hT.sym _ rfl o2).symm)
  have hl : natAt v i = natAt v j := by
    have h1 := hs.rfree (natAt v i)
    rw [past_last hT.ok.2 hv hi, past_last hT.ok.2 hv hj] at h1
    simpa using h1
  have hp : tb (nth (posM t v) j) i = true := (pos_first h24 hj).2 (.inr ⟨j, hij, (pos_last h24 hj j).2 (.inl rfl), by unfold tied; rw [hl]; exact hrefl _ (hv _ (natAt_mem hj))⟩)
  have := past_lt hT hv h24 hj hp (by omega)
  rw [hs.perm.length_eq] at this
  omega
/-- A prime is its own past. -/
theorem scan_self (t : List Int) (b0 : Nat) : ∀ (r : List Nat) (m : Int) (init : List Nat), scanN t init.reverse (nth t b0) [b0] = init ++ [b0] → scanM t init.reverse (nth t b0) = m →
    ∃ init', scanN t r m (init ++ [b0]) = init' ++ [b0] ∧ scanN t init'.reverse (nth t b0) [b0] = init' ++ [b0]
  | [], m, init, h1, _ => ⟨init, rfl, h1⟩
  | c :: r, m, init, h1, h2 => by
    rw [scanN]
    split
    · rename_i hb
      have e1 : scanN t (c :: init).reverse (nth t b0) [b0] = (c :: init) ++ [b0] := by
        rw [List.reverse_cons, (scan_app t init.reverse [c] (nth t b0) [b0]).1, h2, h1, scanN, if_pos hb]; rfl
      have e2 : scanM t (c :: init).reverse (nth t b0) = ibits .or .i64 m (nth t c) := by
        rw [List.reverse_cons, (scan_app t init.reverse [c] (nth t b0) [b0]).2, h2, scanM, if_pos hb]; rfl
      exact scan_self t b0 r _ (c :: init) e1 e2
    · exact scan_self t b0 r m init h1 h2
theorem past_self (t : List Int) (v : List Nat) (i : Nat) : pastW t (pastW t v i) ((pastW t v i).length - 1) = pastW t v i := by
  obtain ⟨init, h1, h2⟩ := scan_self t (natAt v i) (v.take i).reverse (nth t (natAt v i)) [] rfl rfl
  rw [List.nil_append] at h1
  have e : pastW t v i = init ++ [natAt v i] := h1
  rw [e]
  unfold pastW
  have l1 : (init ++ [natAt v i]).length - 1 = init.length := by simp
  rw [l1, List.take_left']
  · rw [show natAt (init ++ [natAt v i]) init.length = natAt v i by simp [natAt]]
    exact h2
  · rfl
theorem past_app {t : List Int} {q : List Nat} (r : List Nat) {i : Nat} (hi : i < q.length) : pastW t (q ++ r) i = pastW t q i := by
  unfold pastW
  rw [List.take_append_of_le_length (by omega), show natAt (q ++ r) i = natAt q i by simp [natAt, List.getD_eq_getElem?_getD, List.getElem?_append_left hi]]
/-- The primes of a prefix are primes. -/
theorem pre_primes {t : List Int} (hT : SymT t) {q v : List Nat} (hv : ∀ c ∈ v, c < t.length) (h : Pre t q v) {i : Nat} (hi : i < q.length) : ∃ j, j < v.length ∧ nf t (pastW t q i) = nf t (pastW t v j) := by
  obtain ⟨r, hr⟩ := h
  have hq : ∀ c ∈ q ++ r, c < t.length := fun c hc => hv c (hr.perm.mem_iff.1 hc)
  obtain ⟨j, hj, e⟩ := sws_primes hT.ok hr.symm hv i (by simp; omega)
  refine ⟨j, by simpa using hj, ?_⟩
  unfold primeR at e
  rw [wn_natsU, wn_natsU, past_app r hi] at e
  have h1 := congrArg wn e
  rwa [wn_natsU, wn_natsU] at h1
/-- A prime that is a prefix is the prime of a position. -/
theorem prime_at {t : List Int} (hT : SymT t) {w v : List Nat} (hw : ∀ c ∈ w, c < t.length) (hv : ∀ c ∈ v, c < t.length) {k : Nat} (hk : k < w.length) (h : Pre t (nf t (pastW t w k)) v) : ∃ i, i < v.length ∧ nf t (pastW t w k) = nf t (pastW t v i) := by
  obtain ⟨o1, o2, _⟩ := pastW_ok (t := t) hw hk
  have hs := sws_nf hT.ok hT.sym _ rfl o1
  have h2 : Pre t (pastW t w k) v := (Pre.of_sws hs).trans h
  obtain ⟨i, hi, e⟩ := pre_primes hT hv h2 (i := (pastW t w k).length - 1) (by omega)
  rw [past_self] at e
  exact ⟨i, hi, e⟩
theorem prime_lab {t : List Int} (hT : SymT t) {v : List Nat} (hv : ∀ c ∈ v, c < t.length) {i : Nat} (hi : i < v.length) : nth (nats (nf t (pastW t v i))) ((nats (nf t (pastW t v i))).length - 1) = (natAt v i : Nat) := by
  obtain ⟨a1, a2, a3⟩ := pastW_ok (t := t) hv hi
  have hs := sws_nf hT.ok hT.sym _ rfl a1
  have hpm := nf_perm hT.ok _ rfl a1
  generalize hq : nf t (pastW t v i) = q at *
  have hv0 : q ≠ [] := fun h => by rw [h] at hpm; have := hpm.length_eq; simp at this; omega
  have hlen : 0 < q.length := List.length_pos_iff.2 hv0
  have hlast : isFree t q.reverse (natAt q (q.length - 1)) = true := by
    have : q.reverse = natAt q (q.length - 1) :: q.reverse.tail := by
      have h0 : q.reverse ≠ [] := by simpa using hv0
      rw [← List.cons_head_tail h0]
      simp only [List.tail_cons, List.cons.injEq, and_true]
      rw [List.head_reverse, natAt_at (by omega), List.getLast_eq_getElem]
    rw [this]; simp [isFree]
  rw [← hs.rfree, past_last hT.ok.2 hv hi] at hlast
  rw [nats_length, nats_nth (by omega)]
  have : natAt q (q.length - 1) = natAt v i := by simpa using hlast
  rw [this]
/-! The smallest word is the word of an order of the events. -/
inductive Ext (x : StrucV) (c : Int) : List Nat → Int → Prop
  | nil : Ext x c [] 0
  | snoc {es : List Nat} {s : Int} {e : Nat} : Ext x c es s → e ∈ candL x c s → Ext x c (es ++ [e]) (ibits .or .i64 s (pow1 e))
def lvExt (x : StrucV) (c : Int) (sets : List Int) (st : Int × List Int) : Prop := ∀ d ∈ st.2, ∃ s ∈ sets, ∃ e ∈ candL x c s, d = ibits .or .i64 s (pow1 e) ∧ nth x.labels e = st.1
theorem stepC_ext {x : StrucV} {c : Int} {sets : List Int} {s : Int} (hs : s ∈ sets) {e : Nat} (he : e ∈ candL x c s) {st : Int × List Int} (h : lvExt x c sets st) : lvExt x c sets (stepC x s st e) := by
  unfold stepC
  split
  · intro d hd
    simp only [List.mem_singleton] at hd
    exact ⟨s, hs, e, he, hd, rfl⟩
  · split
    · split
      · exact h
      · intro d hd
        simp only [List.mem_append, List.mem_singleton] at hd
        rcases hd with hd | hd
        · exact h d hd
        · rename_i hl _
          exact ⟨s, hs, e, he, hd, hl⟩
    · exact h
theorem foldC_ext {x : StrucV} {c : Int} {sets : List Int} {s : Int} (hs : s ∈ sets) : ∀ (l : List Nat) {st : Int × List Int}, (∀ e ∈ l, e ∈ candL x c s) → lvExt x c sets st → lvExt x c sets (l.foldl (stepC x s) st)
  | [], _, _, h => h
  | e :: l, _, hl, h => foldC_ext hs l (fun f hf => hl f (by simp [hf])) (stepC_ext hs (hl e (by simp)) h)
theorem scans_ext {x : StrucV} {c : Int} {sets : List Int} : ∀ (l : List Int) {st : Int × List Int}, (∀ s ∈ l, s ∈ sets) → lvExt x c sets st → lvExt x c sets (l.foldl (scanC x c) st)
  | [], _, _, h => h
  | s :: l, _, hl, h => scans_ext l (fun f hf => hl f (by simp [hf])) (foldC_ext (hl s (by simp)) _ (fun _ he => he) h)
theorem wordS_ext (x : StrucV) (c : Int) : ∀ k, ∀ d ∈ (wordS x c k).2, ∃ es, Ext x c es d ∧ (wordS x c k).1 = es.map (nth x.labels)
  | 0, d, hd => by
    simp only [wordS, List.mem_singleton] at hd
    subst hd
    exact ⟨[], .nil, rfl⟩
  | k + 1, d, hd => by
    have h := scans_ext (x := x) (c := c) (sets := (wordS x c k).2) (wordS x c k).2 (st := (8, [])) (fun s hs => hs) (fun d hd => by simp at hd)
    obtain ⟨s, hs, e, he, rfl, hl⟩ := h d hd
    obtain ⟨es, h1, h2⟩ := wordS_ext x c k s hs
    refine ⟨es ++ [e], .snoc h1 he, ?_⟩
    simp only [wordS, List.map_append, List.map_cons, List.map_nil, ← h2, hl]
    rfl
theorem ext_facts {x : StrucV} (hs : isStructureV x = true) {c : Int} (hc : isM x.labels.length c = true) {es : List Nat} {s : Int} (h : Ext x c es s) :
    isM x.labels.length s = true ∧ es.Nodup ∧ (∀ e, e ∈ es ↔ tb s e = true) ∧ (∀ a ∈ es, ∀ i, tb (nth x.below a) i = true → tb s i = true) ∧ es.Pairwise (fun a b => tb (nth x.below a) b = false) ∧ ∀ a ∈ es, a < x.labels.length := by
  obtain ⟨g1, g2, g3⟩ := struc_len hs
  induction h with
  | nil => exact ⟨isM_of (by omega) M_zero (fun i _ => by simp), List.nodup_nil, by simp, by simp, List.Pairwise.nil, by simp⟩
  | snoc h he ih =>
    rename_i es s e
    obtain ⟨i1, i2, i3, i4, i5, i6⟩ := ih
    obtain ⟨c1, c2, c3, c4⟩ := candL_mem he
    obtain ⟨hM, hb⟩ := isM_spec (by omega) i1
    obtain ⟨mb, _⟩ := struc_M hs c1
    have hbel : ∀ i, tb (nth x.below e) i = true → tb s i = true := by
      intro i hi
      have := (eq_zero_iff (M_andNot mb hM)).1 c4 i
      rw [tb_andNot mb hM, hi] at this
      simpa using this
    have hor : ∀ i, tb (ibits .or .i64 s (pow1 e)) i = (tb s i || decide (e = i)) := fun i => by rw [tb_or hM (M_pow1 (by omega)), tb_pow1 (by omega)]
    refine ⟨isM_or1 g1 i1 c1, ?_, fun f => ?_, fun a ha i hi => ?_, ?_, fun a ha => ?_⟩
    · refine List.nodup_append.2 ⟨i2, by simp, fun a ha b hb2 e2 => ?_⟩
      simp only [List.mem_singleton] at hb2
      subst hb2; subst e2
      rw [i3, c3] at ha; cases ha
    · rw [List.mem_append, List.mem_singleton, i3, hor]
      simp only [Bool.or_eq_true, decide_eq_true_eq]
      exact or_congr Iff.rfl eq_comm
    · rw [hor]
      rcases List.mem_append.1 ha with ha | ha
      · rw [i4 a ha i hi]; rfl
      · simp only [List.mem_singleton] at ha
        subst ha
        rw [hbel i hi]; rfl
    · refine List.pairwise_append.2 ⟨i5, by simp, fun a ha b hb2 => ?_⟩
      simp only [List.mem_singleton] at hb2
      subst hb2
      cases h5 : tb (nth x.below a) b
      · rfl
      · rw [i4 a ha b h5] at c3; cases c3
    · rcases List.mem_append.1 ha with ha | ha
      · exact i6 a ha
      · simp only [List.mem_singleton] at ha
        subst ha; exact c1
theorem wordC_ext {x : StrucV} (hs : isStructureV x = true) {c : Int} (hc : isM x.labels.length c = true) (hcf : isConf x c = true) : ∃ es, Ext x c es c ∧ wordC x c = es.map (nth x.labels) := by
  obtain ⟨g1, g2, g3⟩ := struc_len hs
  obtain ⟨⟨l1, l2⟩, _⟩ := wordS_st hs hc hcf (popc c.toNat) (Nat.le_refl _)
  rw [Nat.sub_self] at l2
  obtain ⟨d, hd⟩ := List.exists_mem_of_ne_nil _ l1
  obtain ⟨⟨k1, k2⟩, k3⟩ := l2 d hd
  obtain ⟨es, h1, h2⟩ := wordS_ext x c _ d hd
  have e : d = c := by
    obtain ⟨hM, hb⟩ := isM_spec (by omega) hc
    obtain ⟨hMd, hbd⟩ := isM_spec (by omega) k1
    apply tb_ext hMd hM
    intro i _
    cases h5 : tb c i
    · cases h6 : tb d i
      · rfl
      · rw [k2 i h6] at h5; cases h5
    · have hin : i < x.labels.length := Nat.lt_of_not_le fun hle => by rw [hb i hle] at h5; cases h5
      unfold remN at k3
      have := List.filter_eq_nil_iff.1 (List.length_eq_zero_iff.1 k3) i (List.mem_range.2 hin)
      simpa [h5] using this
  subst e
  exact ⟨es, h1, h2⟩
/-! Primes in order are an event structure. -/
/-- A list of primes of words. -/
structure PrL (t : List Int) (P : List (List Int)) : Prop where
  nd : P.Nodup
  pr : ∀ r ∈ P, ∃ (w : List Nat) (k : Nat), (∀ c ∈ w, c < t.length) ∧ w.length ≤ 24 ∧ k < w.length ∧ r = nats (nf t (pastW t w k))
theorem nodup_mapS {α β : Type} {f : α → β} : ∀ {l : List α}, l.Nodup → (∀ a ∈ l, ∀ b ∈ l, f a = f b → a = b) → (l.map f).Nodup
  | [], _, _ => List.nodup_nil
  | a :: l, hn, h => by
    obtain ⟨h1, h2⟩ := List.nodup_cons.1 hn
    rw [List.map_cons, List.nodup_cons]
    refine ⟨fun hm => ?_, nodup_mapS h2 fun b hb c hc => h b (by simp [hb]) c (by simp [hc])⟩
    obtain ⟨b, hb, hfb⟩ := List.mem_map.1 hm
    have := h b (by simp [hb]) a (by simp) hfb
    subst this; exact h1 hb
theorem nd_inj {P : List (List Int)} (h : P.Nodup) {e f : Nat} (he : e < P.length) (hf : f < P.length) (hef : nthR P e = nthR P f) : e = f := by
  rw [nthR_at he, nthR_at hf] at hef
  exact (List.getElem_inj h).1 hef
section
variable {t : List Int} (hT : SymT t) (hrefl : ∀ a, a < t.length → tb (nth t a) a = true) {P : List (List Int)} (hP : PrL t P)
include hT hP
theorem pr_facts {r : List Int} (hr : r ∈ P) : (∀ c ∈ wn r, c < t.length) ∧ (wn r).length ≤ 24 ∧ 0 < (wn r).length ∧ r = nats (wn r) ∧ nf t (wn r) = wn r := by
  obtain ⟨w, k, h1, h2, h3, rfl⟩ := hP.pr r hr
  obtain ⟨o1, o2, o3⟩ := pastW_ok (t := t) h1 h3
  have hp := nf_perm hT.ok _ rfl o1
  have hl := hp.length_eq
  rw [wn_natsU]
  exact ⟨fun c hc => o1 c (hp.mem_iff.1 hc), by omega, by omega, rfl, ((sws_nf hT.ok hT.sym _ rfl o1).nf hT.ok o1).symm⟩
/-- A word whose primes are all in the list: each order of the primes that are its prefixes spells it. -/
theorem spell {v : List Nat} (hv : ∀ c ∈ v, c < t.length) (h24 : v.length ≤ 24) (hrefl : ∀ a, a < t.length → tb (nth t a) a = true) (hcov : ∀ i, i < v.length → nats (nf t (pastW t v i)) ∈ P) {es : List Nat} (hnd : es.Nodup) (hmem : ∀ e, e ∈ es ↔ e < P.length ∧ withinN t (wn (nthR P e)) v = true)
    (hpw : es.Pairwise fun a b => belQ t P a b = false) : Sws t (es.map fun e => (labF P e).toNat) v := by
  have hpos : ∀ e, e ∈ es → ∃ i, i < v.length ∧ nthR P e = nats (nf t (pastW t v i)) := fun e he => by
    obtain ⟨h1, h2⟩ := (hmem e).1 he
    obtain ⟨w, k, k1, k2, k3, k4⟩ := hP.pr _ (nthR_mem h1)
    rw [k4, wn_natsU, within_iff hT hv] at h2
    obtain ⟨i, hi, e1⟩ := prime_at hT k1 hv k3 h2
    exact ⟨i, hi, by rw [k4, e1]⟩
  let pos : Nat → Nat := fun e => if h : ∃ i, i < v.length ∧ nthR P e = nats (nf t (pastW t v i)) then Classical.choose h else 0
  have pos_ok : ∀ e, e ∈ es → pos e < v.length ∧ nthR P e = nats (nf t (pastW t v (pos e))) := fun e he => by
    have h := hpos e he
    have : pos e = Classical.choose h := by simp only [pos]; rw [dif_pos h]
    rw [this]; exact Classical.choose_spec h
  have pinj : ∀ i j, i < v.length → j < v.length → nats (nf t (pastW t v i)) = nats (nf t (pastW t v j)) → i = j := fun i j hi hj h => by
    have h' : nf t (pastW t v i) = nf t (pastW t v j) := by
      have := congrArg wn h
      rwa [wn_natsU, wn_natsU] at this
    rcases Nat.lt_trichotomy i j with h1 | h1 | h1
    · exact (prime_inj hT hrefl hv h24 h1 hj h').elim
    · exact h1
    · exact (prime_inj hT hrefl hv h24 h1 hi h'.symm).elim
  have hperm : (es.map pos).Perm (List.range v.length) := by
    refine (List.perm_ext_iff_of_nodup (nodup_mapS hnd fun a ha b hb hab => ?_) List.nodup_range).2 fun i => ?_
    · refine nd_inj hP.nd ((hmem a).1 ha).1 ((hmem b).1 hb).1 ?_
      rw [(pos_ok a ha).2, (pos_ok b hb).2, hab]
    · rw [List.mem_map, List.mem_range]
      constructor
      · rintro ⟨e, he, rfl⟩; exact (pos_ok e he).1
      · intro hi
        obtain ⟨e, he, heq⟩ := List.mem_iff_getElem.1 (hcov i hi)
        rw [← nthR_at he] at heq
        have hin : e ∈ es := (hmem e).2 ⟨he, by
          rw [heq, wn_natsU, within_iff hT hv]
          have o1 := (pastW_ok (t := t) hv hi).1
          exact (Pre.of_sws (sws_nf hT.ok hT.sym _ rfl o1).symm).trans (prime_pre hT hv h24 hi)⟩
        refine ⟨e, hin, pinj _ _ (pos_ok e hin).1 hi ?_⟩
        rw [← (pos_ok e hin).2, heq]
  have hinv : (es.map pos).Pairwise fun a b => b < a → indP t v a b := by
    rw [List.pairwise_map]
    refine List.Pairwise.imp_of_mem ?_ hpw
    intro a b ha hb hab hlt
    obtain ⟨p1, p2⟩ := pos_ok a ha
    obtain ⟨q1, q2⟩ := pos_ok b hb
    have hno : tied t v (pos b) (pos a) = false := by
      cases h : tied t v (pos b) (pos a)
      · rfl
      · exfalso
        have hp : tb (nth (posM t v) (pos a)) (pos b) = true := (pos_first h24 p1).2 (.inr ⟨pos a, hlt, (pos_last h24 p1 _).2 (.inl rfl), h⟩)
        have hle := prime_le hT hv h24 p1 hp
        have oa := (pastW_ok (t := t) hv p1).1
        have ob := (pastW_ok (t := t) hv q1).1
        have hw : withinI t (nthR P b) (nthR P a) = true := by
          unfold withinI
          rw [p2, q2, wn_natsU, wn_natsU, within_iff hT (fun c hc => oa c ((nf_perm hT.ok _ rfl oa).mem_iff.1 hc))]
          exact ((Pre.of_sws (sws_nf hT.ok hT.sym _ rfl ob).symm).trans hle).trans (Pre.of_sws (sws_nf hT.ok hT.sym _ rfl oa))
        have hne : b ≠ a := fun e => by subst e; omega
        unfold belQ at hab
        rw [hw] at hab
        simp [hne] at hab
    have h1 : tb (nth t (natAt v (pos b))) (natAt v (pos a)) = false := hno
    exact ⟨by rw [hT.sym _ _ (hv _ (natAt_mem p1)) (hv _ (natAt_mem q1))]; exact h1, h1⟩
  have hs := sws_sort hinv
  rw [sortN_eq hperm (range_sorted _), map_natAt, List.map_map] at hs
  have e : (es.map fun e => (labF P e).toNat) = es.map (natAt v ∘ pos) := List.map_congr_left fun a ha => by
    unfold labF
    rw [(pos_ok a ha).2, prime_lab hT hv (pos_ok a ha).1]
    simp
  rw [e]; exact hs
end
theorem nth_mapRV {f : Nat → Int} {n i : Nat} (h : i < n) : nth ((List.range n).map f) i = f i := by rw [nth_at (by simpa using h)]; simp
theorem alpha_refl {x : AlphaV} (hx : isAlphaV x = true) {a : Nat} (ha : a < x.depends.length) : tb (nth x.depends a) a = true := by
  have h := hx
  unfold isAlphaV at h
  simp only [Bool.and_eq_true, List.all_eq_true, List.mem_range] at h
  have := h.2 a ha
  simp only [alphaRow, depB, Bool.and_eq_true] at this
  exact this.1
theorem symT_ofV {x : AlphaV} (hx : isAlphaV x = true) : SymT x.depends :=
  ⟨⟨by have := (alOk_of hx).len; omega, fun i hi => (alOk_M (alOk_of hx) hi).1⟩, fun a b ha hb => by
    have h := hx
    unfold isAlphaV at h
    simp only [Bool.and_eq_true, List.all_eq_true, List.mem_range] at h
    have := h.2 a ha
    simp only [alphaRow, Bool.and_eq_true, List.all_eq_true, beq_iff_eq, List.mem_range] at this
    exact this.2 b hb⟩
/-- What is known of the primes of a list of words. -/
structure PrS (t : List Int) (rs P : List (List Int)) : Prop where
  sy : SymT t
  rf : ∀ a, a < t.length → tb (nth t a) a = true
  n8 : t.length ≤ 8
  p : PrL t P
  n : P.length ≤ 16
  w : ∀ r ∈ rs, (∀ c ∈ wn r, c < t.length) ∧ (wn r).length ≤ 24
  i : ∀ r ∈ P, ∃ u ∈ rs, Pre t (wn r) (wn u)
  c : ∀ u ∈ rs, ∀ k, k < (wn u).length → nats (nf t (pastW t (wn u) k)) ∈ P
section
variable {t : List Int} {rs P : List (List Int)} (h : PrS t rs P)
include h
theorem PrS.within {r : List Int} {v : List Nat} (hr : r ∈ P) (hv : ∀ c ∈ v, c < t.length) : withinN t (wn r) v = true ↔ Pre t (wn r) v := within_iff h.sy hv
theorem PrS.letters {r : List Int} (hr : r ∈ P) : ∀ c ∈ wn r, c < t.length := (pr_facts h.sy h.p hr).1
theorem PrS.belQ {e f : Nat} (he : e < P.length) (hf : f < P.length) : belQ t P e f = true ↔ f ≠ e ∧ Pre t (wn (nthR P f)) (wn (nthR P e)) := by
  unfold Go.AM.belQ withinI
  rw [Bool.and_eq_true, decide_eq_true_eq, within_iff h.sy (h.letters (nthR_mem he))]
theorem PrS.tog {u v : List Int} (hu : u ∈ P) (hv : v ∈ P) : togQ t rs u v = true ↔ ∃ w ∈ rs, Pre t (wn u) (wn w) ∧ Pre t (wn v) (wn w) := by
  unfold togQ withinI
  rw [List.any_eq_true]
  constructor
  · rintro ⟨w, hw, hh⟩
    rw [Bool.and_eq_true, within_iff h.sy (h.w w hw).1, within_iff h.sy (h.w w hw).1] at hh
    exact ⟨w, hw, hh⟩
  · rintro ⟨w, hw, hh⟩
    refine ⟨w, hw, ?_⟩
    rw [Bool.and_eq_true, within_iff h.sy (h.w w hw).1, within_iff h.sy (h.w w hw).1]
    exact hh
theorem PrS.len : (structP t rs P).labels.length = P.length := by simp [structP]
theorem PrS.below {e : Nat} (he : e < P.length) (f : Nat) : tb (nth (structP t rs P).below e) f = (decide (f < P.length) && Go.AM.belQ t P e f) := by
  have h16 := h.n
  show tb (nth (belowS t P P.length) e) f = _
  unfold belowS; rw [nth_mapRV he]
  unfold belowF; rw [tb_orMask _ M_zero _ _ (by omega)]; simp
theorem PrS.belowM {e : Nat} (he : e < P.length) : isM P.length (nth (structP t rs P).below e) = true := by
  have h16 := h.n
  show isM P.length (nth (belowS t P P.length) e) = true
  unfold belowS; rw [nth_mapRV he]
  unfold belowF
  exact isM_of (by omega) (M_orMask _ M_zero _ (by omega)) fun i hi => by rw [tb_orMask _ M_zero _ _ (by omega)]; simp; omega
theorem PrS.clash {e : Nat} (he : e < P.length) (f : Nat) : tb (nth (structP t rs P).clash e) f = (decide (f < P.length) && !togQ t rs (nthR P e) (nthR P f)) := by
  have h16 := h.n
  show tb (nth (clashS t rs P P.length) e) f = _
  unfold clashS; rw [nth_mapRV he]
  unfold clashF; rw [tb_orMask _ M_zero _ _ (by omega)]; simp [clashQ]
theorem PrS.clashM {e : Nat} (he : e < P.length) : isM P.length (nth (structP t rs P).clash e) = true := by
  have h16 := h.n
  show isM P.length (nth (clashS t rs P P.length) e) = true
  unfold clashS; rw [nth_mapRV he]
  unfold clashF
  exact isM_of (by omega) (M_orMask _ M_zero _ (by omega)) fun i hi => by rw [tb_orMask _ M_zero _ _ (by omega)]; simp; omega
theorem PrS.label {e : Nat} (he : e < P.length) : nth (structP t rs P).labels e = labF P e ∧ 0 ≤ labF P e ∧ labF P e < t.length := by
  have hr := nthR_mem he
  obtain ⟨f1, f2, f3, f4, f5⟩ := pr_facts h.sy h.p hr
  refine ⟨?_, ?_⟩
  · show nth (labS P P.length) e = _
    unfold labS; rw [nth_mapRV he]
  · unfold labF
    rw [f4, nats_length, nats_nth (by omega)]
    have := f1 _ (natAt_mem (show (wn (nthR P e)).length - 1 < (wn (nthR P e)).length by omega))
    omega
theorem PrS.anti {e f : Nat} (he : e < P.length) (hf : f < P.length) (h1 : Pre t (wn (nthR P e)) (wn (nthR P f))) (h2 : Pre t (wn (nthR P f)) (wn (nthR P e))) : e = f := by
  have hs := h1.anti h2
  obtain ⟨e1, _, _, e4, e5⟩ := pr_facts h.sy h.p (nthR_mem he)
  obtain ⟨f1, _, _, f4, f5⟩ := pr_facts h.sy h.p (nthR_mem hf)
  have := hs.nf h.sy.ok e1
  rw [e5, f5] at this
  exact nd_inj h.p.nd he hf (by rw [e4, f4, this])
theorem PrS.struc : isStructureV (structP t rs P) = true := by
  have h16 := h.n
  rw [isStruc_iff]
  simp only [h.len]
  refine ⟨h.n, by simp [structP], by simp [structP], fun e he => ?_, fun e he f hf => ?_⟩
  · obtain ⟨l1, l2, l3⟩ := h.label he
    have h8 := h.n8
    have hne : Go.AM.belQ t P e e = false := by unfold Go.AM.belQ; simp
    have htg : togQ t rs (nthR P e) (nthR P e) = true := by
      rw [h.tog (nthR_mem he) (nthR_mem he)]
      obtain ⟨w, hw, hp⟩ := h.i _ (nthR_mem he)
      exact ⟨w, hw, hp, hp⟩
    unfold evOk
    rw [h.belowM he, h.clashM he, h.below he, h.clash he, hne, htg, l1]
    simp
    omega
  · have hMb := fun {e} he => (isM_spec (by omega) (h.belowM (e := e) he)).1
    have hMc := fun {e} he => (isM_spec (by omega) (h.clashM (e := e) he)).1
    unfold pairOk sub2
    simp only [Bool.and_eq_true, Bool.or_eq_true, Bool.not_eq_true', beq_iff_eq]
    refine ⟨?_, ?_⟩
    · cases hb : tb (nth (structP t rs P).below e) f
      · exact .inl rfl
      · right
        rw [h.below he, Bool.and_eq_true] at hb
        obtain ⟨hne, hpre⟩ := (h.belQ he hf).1 hb.2
        constructor
        · rw [eq_zero_iff (M_andNot (hMb hf) (hMb he))]
          intro g
          rw [tb_andNot (hMb hf) (hMb he), h.below hf, h.below he]
          cases hg : decide (g < P.length)
          · rfl
          · have hg' : g < P.length := by simpa using hg
            cases hq : Go.AM.belQ t P f g
            · rfl
            · obtain ⟨q1, q2⟩ := (h.belQ hf hg').1 hq
              have : Go.AM.belQ t P e g = true := (h.belQ he hg').2 ⟨fun e1 => by
                subst e1
                exact hne (h.anti hf he hpre q2), q2.trans hpre⟩
              rw [this]; rfl
        · rw [eq_zero_iff (M_andNot (hMc hf) (hMc he))]
          intro g
          rw [tb_andNot (hMc hf) (hMc he), h.clash hf, h.clash he]
          cases hg : decide (g < P.length)
          · rfl
          · have hg' : g < P.length := by simpa using hg
            cases ht : togQ t rs (nthR P e) (nthR P g)
            · simp
            · obtain ⟨w, hw, w1, w2⟩ := (h.tog (nthR_mem he) (nthR_mem hg')).1 ht
              have : togQ t rs (nthR P f) (nthR P g) = true := (h.tog (nthR_mem hf) (nthR_mem hg')).2 ⟨w, hw, hpre.trans w1, w2⟩
              rw [this]; rfl
    · rw [h.clash he, h.clash hf]
      have : togQ t rs (nthR P e) (nthR P f) = togQ t rs (nthR P f) (nthR P e) := by
        rw [Bool.eq_iff_iff, h.tog (nthR_mem he) (nthR_mem hf), h.tog (nthR_mem hf) (nthR_mem he)]
        exact ⟨fun ⟨w, a, b, c⟩ => ⟨w, a, c, b⟩, fun ⟨w, a, b, c⟩ => ⟨w, a, c, b⟩⟩
      rw [this]; simp [he, hf]
/-- The primes that are prefixes of a word. -/
def cmask (t : List Int) (P : List (List Int)) (v : List Nat) : Int := orMask 0 (fun e => withinN t (wn (nthR P e)) v) P.length
theorem PrS.cm (v : List Nat) : isM P.length (cmask t P v) = true ∧ ∀ e, tb (cmask t P v) e = (decide (e < P.length) && withinN t (wn (nthR P e)) v) := by
  have h16 := h.n
  have hb : ∀ e, tb (cmask t P v) e = (decide (e < P.length) && withinN t (wn (nthR P e)) v) := fun e => by
    unfold cmask; rw [tb_orMask _ M_zero _ _ (by omega)]; simp
  exact ⟨isM_of (by omega) (M_orMask _ M_zero _ (by omega)) fun i hi => by rw [hb]; simp; omega, hb⟩
theorem PrS.conf {v : List Nat} (hv : ∀ c ∈ v, c < t.length) {w : List Int} (hw : w ∈ rs) (hvw : Pre t v (wn w)) : isConf (structP t rs P) (cmask t P v) = true := by
  have h16 := h.n
  obtain ⟨m1, m2⟩ := h.cm v
  have hM := (isM_spec (by omega) m1).1
  rw [isConf_iff]
  intro e he hte
  rw [h.len] at he
  rw [m2, Bool.and_eq_true] at hte
  have hpe := (within_iff h.sy hv).1 hte.2
  unfold cfgOk
  simp only [Bool.and_eq_true, beq_iff_eq]
  have hMb := (isM_spec (by omega) (h.belowM he)).1
  have hMc := (isM_spec (by omega) (h.clashM he)).1
  constructor
  · rw [eq_zero_iff (M_andNot hMb hM)]
    intro f
    rw [tb_andNot hMb hM, h.below he, m2]
    cases hf : decide (f < P.length)
    · rfl
    · have hf' : f < P.length := by simpa using hf
      cases hq : Go.AM.belQ t P e f
      · rfl
      · have := (within_iff h.sy hv).2 (((h.belQ he hf').1 hq).2.trans hpe)
        rw [this]; rfl
  · rw [eq_zero_iff (M_and hMc hM)]
    intro f
    rw [tb_and hMc hM, h.clash he, m2]
    cases hf : decide (f < P.length)
    · rfl
    · have hf' : f < P.length := by simpa using hf
      cases hq : withinN t (wn (nthR P f)) v
      · simp
      · have hpf := (within_iff h.sy hv).1 hq
        have : togQ t rs (nthR P e) (nthR P f) = true := (h.tog (nthR_mem he) (nthR_mem hf')).2 ⟨w, hw, hpe.trans hvw, hpf.trans hvw⟩
        rw [this]; rfl
theorem PrS.cov {v : List Nat} {w : List Int} (hw : w ∈ rs) (hvw : Pre t v (wn w)) {i : Nat} (hi : i < v.length) : nats (nf t (pastW t v i)) ∈ P := by
  obtain ⟨j, hj, e⟩ := pre_primes h.sy (h.w w hw).1 hvw hi
  rw [e]; exact h.c w hw j hj
theorem PrS.word {v : List Nat} (hv : ∀ c ∈ v, c < t.length) (h24 : v.length ≤ 24) {w : List Int} (hw : w ∈ rs) (hvw : Pre t v (wn w)) : nf t (wordN (structP t rs P) (cmask t P v)) = nf t v := by
  have hs := h.struc
  obtain ⟨m1, m2⟩ := h.cm v
  have hm1 : isM (structP t rs P).labels.length (cmask t P v) = true := by rw [h.len]; exact m1
  have hcf := h.conf hv hw hvw
  obtain ⟨es, hE, hW⟩ := wordC_ext hs hm1 hcf
  obtain ⟨_, i2, i3, i4, i5, i6⟩ := ext_facts hs hm1 hE
  have hlen : ∀ a ∈ es, a < P.length := fun a ha => by have := i6 a ha; rw [h.len] at this; exact this
  have hmem : ∀ e, e ∈ es ↔ e < P.length ∧ withinN t (wn (nthR P e)) v = true := fun e => by
    rw [i3, m2, Bool.and_eq_true, decide_eq_true_eq]
  have hpw : es.Pairwise fun a b => Go.AM.belQ t P a b = false := by
    refine List.Pairwise.imp_of_mem ?_ i5
    intro a b ha hb hab
    rw [h.below (hlen a ha), Bool.and_eq_false_iff] at hab
    rcases hab with hab | hab
    · have := hlen b hb; simp at hab; omega
    · exact hab
  have hsp := spell h.sy h.p hv h24 h.rf (fun i hi => h.cov hw hvw hi) i2 hmem hpw
  have e : wordN (structP t rs P) (cmask t P v) = es.map fun e => (labF P e).toNat := by
    unfold wordN
    rw [hW, List.map_map]
    refine List.map_congr_left fun a ha => ?_
    simp only [Function.comp]
    rw [(h.label (hlen a ha)).1]
  rw [e]
  have hl : ∀ c ∈ es.map (fun e => (labF P e).toNat), c < t.length := fun c hc => by
    obtain ⟨a, ha, rfl⟩ := List.mem_map.1 hc
    have := (h.label (hlen a ha)).2
    omega
  exact hsp.nf h.sy.ok hl
theorem PrS.hist {e : Nat} (he : e < P.length) : histOf (structP t rs P) e = cmask t P (wn (nthR P e)) := by
  have h16 := h.n
  obtain ⟨m1, m2⟩ := h.cm (wn (nthR P e))
  have hMb := (isM_spec (by omega) (h.belowM he)).1
  apply tb_ext (M_or hMb (M_pow1 (by omega))) (isM_spec (by omega) m1).1
  intro f _
  rw [m2]
  rw [tb_or hMb (M_pow1 (by omega)), tb_pow1 (by omega), h.below he]
  have hl := h.letters (nthR_mem he)
  rw [Bool.eq_iff_iff]
  simp only [Bool.or_eq_true, Bool.and_eq_true, decide_eq_true_eq]
  rw [within_iff h.sy hl]
  constructor
  · rintro (⟨h1, h2⟩ | rfl)
    · exact ⟨h1, ((h.belQ he h1).1 h2).2⟩
    · exact ⟨he, Pre.of_sws (.refl _)⟩
  · rintro ⟨h1, h2⟩
    by_cases hfe : f = e
    · exact .inr hfe.symm
    · exact .inl ⟨h1, (h.belQ he h1).2 ⟨hfe, h2⟩⟩
end
/-- The primes of a list of words. -/
theorem prS_of {x : AlphaV} (hx : isAlphaV x = true) {rs : List (List Int)} (hr : ∀ r ∈ rs, overW x.depends.length r = true) (h16 : (primesS x.depends rs rs.length).length ≤ 16) : PrS x.depends rs (primesS x.depends rs rs.length) := by
  have hT := symT_ofV hx
  have hw : ∀ r ∈ rs, (∀ c ∈ wn r, c < x.depends.length) ∧ (wn r).length ≤ 24 := fun r hr' => by
    obtain ⟨e, hu, h24⟩ := overW_wn (hr r hr')
    exact ⟨hu.2, h24⟩
  refine ⟨hT, fun a ha => alpha_refl hx ha, (alOk_of hx).len, ⟨strict_nodup (primesS_ok hT.ok hr _ (Nat.le_refl _)).st, fun r hr' => ?_⟩, h16, hw, fun r hr' => ?_, fun u hu k hk => ?_⟩
  · obtain ⟨j, hj, i, hi, rfl⟩ := (primesS_iff _ (Nat.le_refl _)).1 hr'
    have hm := nthR_mem hj
    exact ⟨wn (nthR rs j), i, (hw _ hm).1, (hw _ hm).2, by rw [wn_len]; exact hi, rfl⟩
  · obtain ⟨j, hj, i, hi, rfl⟩ := (primesS_iff _ (Nat.le_refl _)).1 hr'
    have hm := nthR_mem hj
    have hi' : i < (wn (nthR rs j)).length := by rw [wn_len]; exact hi
    refine ⟨_, hm, ?_⟩
    unfold primeR
    rw [wn_natsU]
    exact (Pre.of_sws (sws_nf hT.ok hT.sym _ rfl (pastW_ok (t := x.depends) (hw _ hm).1 hi').1).symm).trans (prime_pre hT (hw _ hm).1 (hw _ hm).2 hi')
  · obtain ⟨j, hj, rfl⟩ := List.mem_iff_getElem.1 hu
    refine (primesS_iff _ (Nat.le_refl _)).2 ⟨j, hj, k, by rw [nthR_at hj, ← wn_len]; exact hk, ?_⟩
    rw [nthR_at hj]; rfl
theorem l01Own2_mv (a b : Bool) (rs : List (List Int)) (hl : rs.length ≤ 1000000) (hr : ∀ r ∈ rs, Fits r) : ACalls2 Tryz.prog 251 [.own 1 a (srows b rs)] [.own 1 a (srows b rs)] (.own 1 true (srows true rs)) := by
  refine walkO (fun t => t == 3015 || t == 3016 || t == 3017 || t == 1012 || t == 1013 || t == 1014 || t == 1015) mixed Go.Proofs.Tryz.func251 rfl rfl rfl (by kernel_rfl) (by simp) (by simp) (by simp) (by kernel_rfl) ?_
  simp
  refine awp_loop2 [0] [1000000000] (fun k : Nat => [(4, iv k), (3, .ref 200)]) (fun k => [(200, .own 1 true (srows true (rs.take k)))]) (fun k => k ≤ rs.length) (fun k => rs.length - k) 0 (weak_mk (fun t => if t = 200 then some 5 else some t) (by simp) (by simp) rfl) (by simp) ?_
  intro k hk
  by_cases hlt : k < rs.length
  · have hst : rs.take (k + 1) = rs.take k ++ [nthR rs k] := by rw [List.take_succ_eq_append_getElem hlt, nthR_at hlt]
    simp [hlt, show k + 1 ≤ rs.length from hlt]
    refine ⟨_, l01Own_spec _ _ (hr _ (nthR_mem hlt)), ?_⟩
    simp
    rw [wrap_id ((k : Int) + 1) (by omega) (by omega)]
    exact ⟨by omega, by omega, Round.mk (k + 1) (weak_mk (fun t => if t = 200 then some 19 else some t) (by simp) (by simp [hst]) rfl) hlt (by omega)⟩
  · obtain rfl : k = rs.length := by omega
    simp
theorem l12Closure_mv (a b c : Bool) (x : AlphaV) (hx : isAlphaV x = true) (rs : List (List Int)) (hl : rs.length ≤ 40) (hr : ∀ r ∈ rs, overW x.depends.length r = true) : ACalls2 Tryz.prog 234 [alphaSl a x, .own 1 b (srows c rs)] [alphaSl a x, .own 1 b (srows c rs)] (.own 1 true (srows true (closR x.depends rs))) := by
  have hok := alOk_of hx
  have h8 := hok.len
  have ht : TOk x.depends := ⟨by omega, fun i hi => (alOk_M hok hi).1⟩
  unfold closR
  generalize hR : cloB x.depends 300 0 rs = R
  refine walkO (fun t => t == 6065 || t == 2010) mixed Go.Proofs.Tryz.func234 rfl rfl rfl (by kernel_rfl) (by simp) (by simp) (by simp) (by kernel_rfl) ?_
  simp
  refine ⟨_, _, l01Own2_mv b c rs (by omega) (fun r h => by have := overW_len (hr r h); unfold Fits; omega), ?_⟩
  simp
  refine awp_loop2 [2] [2, 1000000001] (fun q : Nat × List (List Int) => [(6, iv q.1), (5, .ref 200)]) (fun q => [(200, .own 1 true (srows true q.2))]) (fun q => q.1 ≤ 230 ∧ q.2.length ≤ 224 ∧ q.1 ≤ q.2.length ∧ (∀ r ∈ q.2, overW x.depends.length r = true) ∧ cloB x.depends (300 - q.1) q.1 q.2 = R) (fun q => 300 - q.1) (0, rs) (weak_mk (fun t => if t = 200 then some 10 else some t) (by simp) (by simp) rfl) (by simp; exact ⟨by omega, hr, hR⟩) ?_
  rintro ⟨i, A⟩ ⟨hi1, hA1, hi2, hA2, hcl⟩
  simp only at hi1 hA1 hi2 hA2 hcl
  obtain ⟨m, hm⟩ : ∃ m, 300 - i = m + 1 := ⟨299 - i, by omega⟩
  rw [hm, cloB] at hcl
  by_cases hgo : i < A.length ∧ A.length ≤ 200
  · obtain ⟨hli, h200⟩ := hgo
    rw [if_pos ⟨hli, h200⟩] at hcl
    have how := hA2 _ (nthR_mem hli)
    have hrl := overW_len how
    obtain ⟨er, hur, _⟩ := overW_wn how
    generalize hrr : nthR A i = r at *
    simp [hli, show (A.length : Int) ≤ 200 by omega]
    refine awp_loop2 [2, 6] [2, 1000000001] (fun k : Nat => [(7, iv k), (5, .ref 201)]) (fun k => [(201, .own 1 true (srows true (cloRow x.depends r A k)))]) (fun k => k ≤ r.length - 1) (fun k => r.length - k) 0 (weak_mk (fun t => if t = 201 then some 200 else some t) (by simp) (by simp [cloRow]) rfl) (by simp) ?_
    intro k hk
    have hBl := cloRow_len x.depends r A k
    have hBp := cloRow_pre (t := x.depends) (r := r) hli k
    have hBo := cloRow_overW (t := x.depends) hA2 how k hk
    have hsucc := cloRow_succ x.depends r A k
    rw [hrr] at hBp
    have hend : k = r.length - 1 → cloRow x.depends r A k = cloRow x.depends r A (r.length - 1) := fun e => by rw [e]
    generalize cloRow x.depends r A k = B at *
    have hiB : i < B.length := by omega
    have hwk : IntKind.i64.wrap ((k : Int) + 1) = ((k + 1 : Nat) : Int) := by rw [wrap_id _ (by omega) (by omega)]; omega
    by_cases hlk : k + 1 < r.length
    · obtain ⟨p, hp1, hp2⟩ := overW_nth how (show k < r.length by omega)
      obtain ⟨q, hq1, hq2⟩ := overW_nth how hlk
      have hc := l02Dep_spec a x ht p q hp2 (by omega)
      have f1 : (k : Int) + 1 < (r.length : Int) := by omega
      have f2 : i + 1 ≤ B.length := hiB
      have hlR : (swapR r k).length = r.length := by simp [swapR]
      simp [hiB, hBp, hwk, f1, f2, hlk, hp1, hq1, show k < r.length by omega, show (0 : Int) ≤ (k : Int) + 1 by omega]
      repeat (rw [exE_eq]; simp [hiB, hBp, hwk, f1, f2, hlk, hp1, hq1, show k < r.length by omega, show (0 : Int) ≤ (k : Int) + 1 by omega])
      refine ⟨_, hc, ?_⟩
      cases hdp : tb (nth x.depends p) q
      · rw [cloK_f (by rw [hp1, hq1]; exact hdp)] at hsucc
        simp [hiB, hBp, hwk, f1, f2, hlk, hp1, hq1, show k < r.length by omega, show (0 : Int) ≤ (k : Int) + 1 by omega]
        refine ⟨_, l01Own_spec _ r (by unfold Fits; omega), ?_⟩
        simp [hiB, hBp, hwk, f1, f2, hlk, hp1, hq1, show k < r.length by omega, show (0 : Int) ≤ (k : Int) + 1 by omega, ints_put]
        have hsw : (r.set k (q : Int)).set (k + 1) (p : Int) = swapR r k := by unfold swapR; rw [hp1, hq1]
        rw [hsw]
        have how2 := swapR_overW how hlk
        refine ⟨by omega, by omega, ?_⟩
        refine WkK.mk (weak_frz 53 rfl (by simp)) ?_
        simp
        refine ⟨_, l12Has_spec true true B (by omega) (fun y hy => overW_list (hBo y hy) (by omega)) (swapR r k) (by unfold Fits; omega), ?_⟩
        by_cases hin : swapR r k ∈ B
        · rw [if_pos hin] at hsucc
          simp [hin, hwk]
          exact Round.mk (k + 1) (weak_mk some (by simp) (by simp [hsucc]) rfl) (by omega) (by omega)
        · rw [if_neg hin] at hsucc
          simp [hin, hwk]
          exact ⟨by omega, by omega, Round.mk (k + 1) (weak_mk (fun t => if t = 201 then some 83 else some t) (by simp) (by simp [hsucc]) rfl) (by omega) (by omega)⟩
      · rw [cloK_t (by rw [hp1, hq1]; exact hdp)] at hsucc
        simp [hwk]
        exact Round.mk (k + 1) (weak_mk some (by simp) (by simp [hsucc]) rfl) (by omega) (by omega)
    · have hk1 : k = r.length - 1 := by omega
      have f1 : ¬ (k : Int) + 1 < (r.length : Int) := by omega
      have hB : B = cloRow x.depends r A (r.length - 1) := hend hk1
      rw [← hB] at hcl
      simp [hiB, hBp, f1, show i + 1 ≤ B.length from hiB, hwk]
      rw [wrap_id ((i : Int) + 1) (by omega) (by omega)]
      exact Round.mk (i + 1, B) (weak_mk (fun t => if t = 200 then some 201 else some t) (by simp) (by simp) rfl) ⟨by simp only; omega, by simp only; omega, by simp only; omega, hBo, by simp only; rw [show 300 - (i + 1) = m by omega]; exact hcl⟩ (by simp only; omega)
  · have hend : A = R := by rw [← hcl, if_neg hgo]
    rw [← hend]
    by_cases hli : i < A.length
    · have h200 : ¬ (A.length : Int) ≤ 200 := by omega
      simp [hli, h200]
    · simp [hli]
theorem l12Put_mv (d : Bool) (rs : List (List Int)) (hl : rs.length ≤ 1000000) (hr : ∀ r ∈ rs, Fits r) (w : List Int) (hw : Fits w) (hs : Strict rs) : ACalls2 Tryz.prog 60 [.own 1 true (srows true rs), .sl 1 d (ints w)] [.junk, .sl 1 d (ints w)] (.own 1 true (srows true (putS rs w))) := by
  by_cases hm : w ∈ rs
  · obtain ⟨j, hj, hje⟩ := List.mem_iff_getElem.1 hm
    rw [← nthR_at hj] at hje
    have hput : putS rs w = rs := by unfold putS; rw [if_pos hm]
    rw [hput]
    refine walkJ (fun t => t == 1034 || t == 3035 || t == 6021) [true, false] mixed Go.Proofs.Tryz.func60 rfl rfl rfl (by kernel_rfl) (by simp) (by simp) (by simp) (by kernel_rfl) ?_
    simp
    refine awp_loop2 [0, 1] [1000000000] (fun k : Nat => [(5, iv k)]) (fun _ => []) (fun k => k ≤ j) (fun k => j - k) 0 (weak_mk some (by simp) (by simp) rfl) (by simp) ?_
    intro k hk
    have hkl : k < rs.length := by omega
    simp [hkl, show k + 1 ≤ rs.length from hkl]
    refine ⟨_, l12Before_spec _ _ _ _ (hr _ (nthR_mem hkl)) hw, ?_⟩
    by_cases hkj : k < j
    · have hlt : cmpW (nthR rs k) w < 0 := by rw [← hje]; exact strict_nthR hs hkj hj
      simp [hlt]
      rw [wrap_id ((k : Int) + 1) (by unfold Fits at *; omega) (by omega)]
      exact Round.mk (k + 1) (weak_mk some (by simp) (by simp) rfl) hkj (by omega)
    · obtain rfl : k = j := by omega
      have h0 : ¬ cmpW (nthR rs k) w < 0 := by rw [hje, cmpW_tot.self]; omega
      simp [h0, hkl, show k + 1 ≤ rs.length from hkl]
      refine ⟨_, l01Same_spec _ _ _ _ (hr _ (nthR_mem hkl)) hw, ?_⟩
      simp [hje]
      refine WkK.mk (fun _ _ _ h => h) ?_
      simp
  · have hput : putS rs w = insR cmpW w rs := by unfold putS; rw [if_neg hm]
    rw [hput]
    refine walkJ (fun t => t == 1034 || t == 3035 || t == 6021) [true, false] mixed Go.Proofs.Tryz.func60 rfl rfl rfl (by kernel_rfl) (by simp) (by simp) (by simp) (by kernel_rfl) ?_
    simp
    refine awp_loop2 [0, 1] [1000000000] (fun k : Nat => [(5, iv k)]) (fun _ => []) (fun k => k ≤ rs.length ∧ ∀ i, i < k → cmpW (nthR rs i) w < 0) (fun k => rs.length - k) 0 (weak_mk some (by simp) (by simp) rfl) ⟨by simp, by simp⟩ ?_
    rintro k ⟨hk, hp⟩
    have stop : (k < rs.length → ¬ cmpW (nthR rs k) w < 0) → k = insRAt cmpW w rs := fun h => insRAt_eq hk hp h
    by_cases hkl : k < rs.length
    · simp [hkl, show k + 1 ≤ rs.length from hkl]
      refine ⟨_, l12Before_spec _ _ _ _ (hr _ (nthR_mem hkl)) hw, ?_⟩
      by_cases hkn : cmpW (nthR rs k) w < 0
      · simp [hkn, wrap_id ((k : Int) + 1) (by omega) (by omega)]
        refine Round.mk (k + 1) (weak_mk some (by simp) (by simp) rfl) ⟨hkl, fun i hi => ?_⟩ (by omega)
        by_cases e : i = k
        · subst e; exact hkn
        · exact hp i (by omega)
      · have hat := stop (fun _ => hkn)
        have hne : ¬ nthR rs k = w := fun e => hm (e ▸ nthR_mem hkl)
        rw [insR_eq, ← hat]
        simp [hkl, hkn, show k + 1 ≤ rs.length from hkl]
        refine ⟨_, l01Same_spec _ _ _ _ (hr _ (nthR_mem hkl)) hw, ?_⟩
        simp [hne]
        refine WkK.mk (weak_frz 1000000000 rfl (by simp)) ?_
        simp
        refine ⟨_, l01Own_spec _ w hw, ?_⟩
        have h2 : (rs.drop k).take (rs.length - k) = rs.drop k := List.take_of_length_le (by simp)
        have hmin : min k rs.length = k := by omega
        simp [srows_drop, srows_take, h2, hmin]
        repeat (refine And.intro (by first | omega | exact ⟨by kernel_rfl, by kernel_rfl⟩) ?_)
        try right
        rw [← srows_cons, ← srows_append]
        exact .refl _
    · have hat := stop (fun h => absurd h hkl)
      obtain rfl : k = rs.length := by omega
      rw [insR_eq, ← hat]
      simp
      refine WkK.mk (weak_frz 1000000000 rfl (by simp)) ?_
      simp
      refine ⟨_, l01Own_spec _ w hw, ?_⟩
      simp [srows_drop, srows_take]
      first | refine ⟨⟨by kernel_rfl, by kernel_rfl⟩, ?_⟩ | exact ⟨by kernel_rfl, by kernel_rfl⟩
      omega
theorem l12Put_mvO (d : Bool) (rs : List (List Int)) (hl : rs.length ≤ 1000000) (hr : ∀ r ∈ rs, Fits r) (w : List Int) (hw : Fits w) (hs : Strict rs) : ACalls2 Tryz.prog 60 [.own 1 true (srows true rs), .own 1 d (ints w)] [.junk, .own 1 d (ints w)] (.own 1 true (srows true (putS rs w))) := by
  by_cases hm : w ∈ rs
  · obtain ⟨j, hj, hje⟩ := List.mem_iff_getElem.1 hm
    rw [← nthR_at hj] at hje
    have hput : putS rs w = rs := by unfold putS; rw [if_pos hm]
    rw [hput]
    refine walkJ (fun t => t == 1034 || t == 3035 || t == 6021) [true, false] mixed Go.Proofs.Tryz.func60 rfl rfl rfl (by kernel_rfl) (by simp) (by simp) (by simp) (by kernel_rfl) ?_
    simp
    refine awp_loop2 [0, 1] [1000000000, 1000000001] (fun k : Nat => [(5, iv k)]) (fun _ => []) (fun k => k ≤ j) (fun k => j - k) 0 (weak_mk some (by simp) (by simp) rfl) (by simp) ?_
    intro k hk
    have hkl : k < rs.length := by omega
    simp [hkl, show k + 1 ≤ rs.length from hkl]
    refine ⟨_, l12Before_spec _ _ _ _ (hr _ (nthR_mem hkl)) hw, ?_⟩
    by_cases hkj : k < j
    · have hlt : cmpW (nthR rs k) w < 0 := by rw [← hje]; exact strict_nthR hs hkj hj
      simp [hlt]
      rw [wrap_id ((k : Int) + 1) (by unfold Fits at *; omega) (by omega)]
      exact Round.mk (k + 1) (weak_mk some (by simp) (by simp) rfl) hkj (by omega)
    · obtain rfl : k = j := by omega
      have h0 : ¬ cmpW (nthR rs k) w < 0 := by rw [hje, cmpW_tot.self]; omega
      simp [h0, hkl, show k + 1 ≤ rs.length from hkl]
      refine ⟨_, l01Same_spec _ _ _ _ (hr _ (nthR_mem hkl)) hw, ?_⟩
      simp [hje]
      refine WkK.mk (fun _ _ _ h => h) ?_
      simp
  · have hput : putS rs w = insR cmpW w rs := by unfold putS; rw [if_neg hm]
    rw [hput]
    refine walkJ (fun t => t == 1034 || t == 3035 || t == 6021) [true, false] mixed Go.Proofs.Tryz.func60 rfl rfl rfl (by kernel_rfl) (by simp) (by simp) (by simp) (by kernel_rfl) ?_
    simp
    refine awp_loop2 [0, 1] [1000000000, 1000000001] (fun k : Nat => [(5, iv k)]) (fun _ => []) (fun k => k ≤ rs.length ∧ ∀ i, i < k → cmpW (nthR rs i) w < 0) (fun k => rs.length - k) 0 (weak_mk some (by simp) (by simp) rfl) ⟨by simp, by simp⟩ ?_
    rintro k ⟨hk, hp⟩
    have stop : (k < rs.length → ¬ cmpW (nthR rs k) w < 0) → k = insRAt cmpW w rs := fun h => insRAt_eq hk hp h
    by_cases hkl : k < rs.length
    · simp [hkl, show k + 1 ≤ rs.length from hkl]
      refine ⟨_, l12Before_spec _ _ _ _ (hr _ (nthR_mem hkl)) hw, ?_⟩
      by_cases hkn : cmpW (nthR rs k) w < 0
      · simp [hkn, wrap_id ((k : Int) + 1) (by omega) (by omega)]
        refine Round.mk (k + 1) (weak_mk some (by simp) (by simp) rfl) ⟨hkl, fun i hi => ?_⟩ (by omega)
        by_cases e : i = k
        · subst e; exact hkn
        · exact hp i (by omega)
      · have hat := stop (fun _ => hkn)
        have hne : ¬ nthR rs k = w := fun e => hm (e ▸ nthR_mem hkl)
        rw [insR_eq, ← hat]
        simp [hkl, hkn, show k + 1 ≤ rs.length from hkl]
        refine ⟨_, l01Same_spec _ _ _ _ (hr _ (nthR_mem hkl)) hw, ?_⟩
        simp [hne]
        refine WkK.mk (weak_frz 1000000000 rfl (by simp)) ?_
        simp
        refine ⟨_, l01Own_spec _ w hw, ?_⟩
        have h2 : (rs.drop k).take (rs.length - k) = rs.drop k := List.take_of_length_le (by simp)
        have hmin : min k rs.length = k := by omega
        simp [srows_drop, srows_take, h2, hmin]
        repeat (refine And.intro (by first | omega | exact ⟨by kernel_rfl, by kernel_rfl⟩) ?_)
        try right
        rw [← srows_cons, ← srows_append]
        exact .refl _
    · have hat := stop (fun h => absurd h hkl)
      obtain rfl : k = rs.length := by omega
      rw [insR_eq, ← hat]
      simp
      refine WkK.mk (weak_frz 1000000000 rfl (by simp)) ?_
      simp
      refine ⟨_, l01Own_spec _ w hw, ?_⟩
      simp [srows_drop, srows_take]
      first | refine ⟨⟨by kernel_rfl, by kernel_rfl⟩, ?_⟩ | exact ⟨by kernel_rfl, by kernel_rfl⟩
      omega
theorem specClosureOf_mv (a b c : Bool) (x : AlphaV) (hx : I64 x.letters) (hd : Fits x.depends) (rs : List (List Int)) (hl : rs.length ≤ 1000000) (hr : ∀ r ∈ rs, Fits r) :
    ACalls2 Tryz.prog 210 [alphaSl a x, .own 1 b (srows c rs)] [alphaSl a x, .own 1 b (srows c rs)] (.tup [.own 1 false (srows true (closureV x rs).1), iv (closureV x rs).2]) := by
  refine walkO (fun t => t == 2015 || t == 2031) mixed Go.Proofs.Tryz.func210 rfl rfl rfl (by kernel_rfl) (by simp) (by simp) (by simp) (by kernel_rfl) ?_
  simp
  refine ⟨_, specIsFinite_spec a b c x hx hd rs (by omega) hr, ?_⟩
  unfold closureV
  cases hfin : isFin x rs
  · simp
  · obtain ⟨hal, hov, h40⟩ := isFin_rows hfin
    simp
    refine ⟨_, _, l12Closure_mv a b c x hal rs h40 hov, ?_⟩
    have hco : ∀ y ∈ closR x.depends rs, overW x.depends.length y = true := cloB_overW 300 0 hov
    generalize closR x.depends rs = C at *
    simp
    by_cases h200 : C.length ≤ 200
    · simp [h200, show ¬ (200 : Int) < (C.length : Int) by omega, show (C.length : Int) ≤ 200 by omega]
      refine awp_loop2 [6] [15, 1000000001] (fun k : Nat => [(8, iv k), (7, .ref 200)]) (fun k => [(200, .own 1 true (srows true (putAll C k)))]) (fun k => k ≤ C.length) (fun k => C.length - k) 0 (weak_mk (fun t => if t = 200 then some 19 else some t) (by simp) (by simp [putAll]) rfl) (by simp) ?_
      intro k hk
      obtain ⟨p1, p2, p3⟩ := putAll_ok (rs := C) k hk
      by_cases hlt : k < C.length
      · have hs := putAll_succ hlt
        have how := hco _ (nthR_mem hlt)
        have hput := l12Put_mv true (putAll C k) (by omega) (fun r hr => by have := overW_len (hco r (p2 r hr)); unfold Fits; omega) (nthR C k) (by have := overW_len how; unfold Fits; omega) p1
        rw [← hs] at hput
        simp [hlt, show k + 1 ≤ C.length from hlt]
        refine ⟨_, _, hput, ?_⟩
        simp
        rw [wrap_id ((k : Int) + 1) (by omega) (by omega)]
        exact Round.mk (k + 1) (weak_mk (fun t => if t = 200 then some 31 else some t) (by simp) (by simp) rfl) hlt (by omega)
      · obtain rfl : k = C.length := by omega
        simp
    · simp [h200, show (200 : Int) < (C.length : Int) by omega, show ¬ (C.length : Int) ≤ 200 by omega]
theorem l12DrawList_mv (nn a : Bool) (l : List Int) (s : Src) (hs : SrcOk l s) (x : AlphaV) (hx : isAlphaV x = true) (n len : Nat) (hn : n ≤ 10) (hlen : len ≤ 10) :
    ACalls2 Tryz.prog 157 [srcA nn l s, alphaSl a x, iv n, iv len] [srcA nn l (dwList x l n len s).1, alphaSl a x, iv n, iv len] (.own 1 false (srows true (dwList x l n len s).2)) := by
  have hok := alOk_of hx
  have h8 := hok.len
  have hlet := hok.let_
  unfold dwList
  have hwn : IntKind.i64.wrap ((n : Int) + 1) = (n : Int) + 1 := wrap_id _ (by omega) (by omega)
  have hwl : IntKind.i64.wrap ((len : Int) + 1) = (len : Int) + 1 := wrap_id _ (by omega) (by omega)
  refine walkO (fun t => t == 2019 || t == 2028 || t == 2042 || t == 2049 || t == 2047 || t == 2054) mixed Go.Proofs.Tryz.func157 rfl rfl rfl (by kernel_rfl) (by simp) (by simp) (by simp) (by kernel_rfl) ?_
  simp [hwn]
  refine ⟨_, _, l01Next_spec nn l s hs _ (by unfold I64; omega), ?_⟩
  have hs1 := nxS_ok hs ((n : Int) + 1)
  have ha1 := nxN_rng hs ((n : Int) + 1)
  generalize nxS l s ((n : Int) + 1) = s1 at *
  generalize nxN l s ((n : Int) + 1) = r1 at *
  obtain ⟨k0, rfl⟩ := Int.eq_ofNat_of_zero_le ha1.1
  simp only [Int.toNat_natCast]
  obtain ⟨z1, z2⟩ := dwL_ok (n := x.depends.length) (len := len) (by omega) (l := l) k0 0 hs1 (A := []) ⟨List.Pairwise.nil, fun r hr => by simp at hr, by simp⟩
  rw [← hlet] at z1 z2
  generalize hR : dwL x.letters len l k0 s1 [] = R at *
  simp
  refine awp_loop2 [0, 3, 5] [5] (fun q : Src × Nat × List (List Int) => [(10, iv q.2.1), (9, .ref 300)]) (fun q => [(1000000000, srcA nn l q.1), (300, .own 1 true (srows true q.2.2))])
    (fun q => SrcOk l q.1 ∧ LstOk x.depends.length len (20 - q.2.1) q.2.2 ∧ q.2.1 ≤ 10 ∧ dwL x.letters len l q.2.1 q.1 q.2.2 = R) (fun q => q.2.1) (s1, k0, []) (weak_mk (fun t => if t = 300 then some 15 else some t) (by simp) (by simp) rfl) ⟨hs1, ⟨List.Pairwise.nil, fun r hr => by simp at hr, by simp⟩, by simp only; omega, hR⟩ ?_
  rintro ⟨q, k, A⟩ ⟨hq, hA, hk10, hdw⟩
  simp only at hq hA hk10 hdw
  by_cases hk : 0 < k
  · obtain ⟨m, rfl⟩ : ∃ m, k = m + 1 := ⟨k - 1, by omega⟩
    rw [dwL] at hdw
    simp [hwl]
    refine ⟨_, _, l01Next_spec nn l q hq _ (by unfold I64; omega), ?_⟩
    have hq1 := nxS_ok hq ((len : Int) + 1)
    have hb1 := nxN_rng hq ((len : Int) + 1)
    generalize nxS l q ((len : Int) + 1) = q1 at *
    generalize nxN l q ((len : Int) + 1) = r2 at *
    obtain ⟨c0, rfl⟩ := Int.eq_ofNat_of_zero_le hb1.1
    simp only [Int.toNat_natCast] at hdw
    obtain ⟨w1, w2, w3⟩ := dwW_ok (n := x.depends.length) (l := l) c0 (s := q1) (v := []) hq1 (overW_nil _) (by simp; omega)
    rw [← hlet] at w1 w2 w3
    generalize hW : dwW x.letters l c0 q1 [] = W at *
    simp
    refine awp_loop2 [0, 3, 5, 9, 10] [5, 300] (fun z : Src × Nat × List Int => [(12, iv z.2.1), (11, .ref 200)]) (fun z => [(1000000000, srcA nn l z.1), (200, .own 1 true (ints z.2.2))])
      (fun z => SrcOk l z.1 ∧ z.2.1 + z.2.2.length ≤ 20 ∧ dwW x.letters l z.2.1 z.1 z.2.2 = W) (fun z => z.2.1) (q1, c0, []) (weak_mk (fun t => if t = 200 then some 24 else some t) (by simp) (by simp) rfl) ⟨hq1, by simp; omega, hW⟩ ?_
    rintro ⟨y, c, v⟩ ⟨hy, hcl, hwv⟩
    simp only at hy hcl hwv
    by_cases hgo : 0 < c ∧ 0 < x.letters
    · obtain ⟨hc0, hL0⟩ := hgo
      obtain ⟨e, rfl⟩ : ∃ e, c = e + 1 := ⟨c - 1, by omega⟩
      rw [dwW, if_pos hL0] at hwv
      simp [hL0]
      refine ⟨_, _, l01Next_spec nn l y hy _ (by unfold I64; omega), ?_⟩
      have hy1 := nxS_ok hy x.letters
      generalize nxS l y x.letters = y1 at *
      generalize nxN l y x.letters = g at *
      simp
      rw [wrap_id (e : Int) (by omega) (by omega)]
      exact ⟨by omega, by omega, Round.mk (y1, e, v ++ [g]) (weak_mk (fun t => if t = 200 then some 44 else some t) (by simp) (by simp) rfl) ⟨hy1, by simp; omega, hwv⟩ (by simp only; omega)⟩
    · have hWe : W = (y, v) := by
        rw [← hwv]
        cases c with
        | zero => rfl
        | succ c => rw [dwW, if_neg (by omega)]
      subst hWe
      have hput := l12Put_mvO true A (by have := hA.len; omega) (fun r hr => by have := (hA.ok r hr).2; unfold Fits; omega) v (by unfold Fits; omega) hA.st
      have hlp := putS_len A v
      have hA2 : LstOk x.depends.length len (20 - m) (putS A v) := ⟨putS_strict hA.st _, fun r hr => by
        rcases putS_mem.1 hr with rfl | hr
        · exact ⟨w2, by simp at w3; omega⟩
        · exact hA.ok r hr, by have := hA.len; omega⟩
      by_cases hc0 : 0 < c
      · have hL0 : ¬ 0 < x.letters := by omega
        simp [hc0, hL0]
        refine ⟨_, _, hput, ?_⟩
        simp
        rw [wrap_id (m : Int) (by omega) (by omega)]
        exact Round.mk (y, m, putS A v) (weak_mk (fun t => if t = 300 then some 47 else some t) (by simp) (by simp) rfl) ⟨w1, hA2, by simp only; omega, hdw⟩ (by simp only; omega)
      · simp [hc0]
        refine ⟨_, _, hput, ?_⟩
        simp
        rw [wrap_id (m : Int) (by omega) (by omega)]
        exact Round.mk (y, m, putS A v) (weak_mk (fun t => if t = 300 then some 47 else some t) (by simp) (by simp) rfl) ⟨w1, hA2, by simp only; omega, hdw⟩ (by simp only; omega)
  · obtain rfl : k = 0 := by omega
    simp only [dwL] at hdw
    subst hdw
    simp only
    simp
    refine ⟨_, _, l01Next_spec nn l q hq 4 (by unfold I64; omega), ?_⟩
    generalize nxS l q 4 = q4 at *
    generalize nxN l q 4 = r4 at *
    simp
    have hcl := specClosureOf_mv a true true x (by rw [hlet]; unfold I64; omega) (by unfold Fits; omega) A (by have := hA.len; omega) (fun r hr => by have := (hA.ok r hr).2; unfold Fits; omega)
    by_cases h4 : r4 = 0
    · generalize closureV x A = C at *
      simp [h4]
      refine ⟨_, _, hcl, ?_⟩
      by_cases hc0 : C.2 = 0
      · by_cases hc4 : C.1.length ≤ 40
        · simp [hc0, hc4, show (C.1.length : Int) ≤ 40 by omega]
          try repeat (rw [exE_eq]; simp [hc0, hc4, show (C.1.length : Int) ≤ 40 by omega])
        · simp [hc0, hc4, show ¬ (C.1.length : Int) ≤ 40 by omega]
          try repeat (rw [exE_eq]; simp [hc0, hc4, show ¬ (C.1.length : Int) ≤ 40 by omega])
      · simp [hc0]
        try repeat (rw [exE_eq]; simp [hc0])
    · simp [h4]
theorem likeInts_sameW (a b : Bool) (l : List Int) (hl : l.length < 1000000) : ACalls1 Tryz.prog 30 [.sl 1 a (ints l), .sl 1 b (ints l)] (bv true) := by
  refine walk (fun _ => false) mixed Go.Proofs.Tryz.func30 rfl rfl rfl (by kernel_rfl) rfl (by simp) (by kernel_rfl) ?_
  simp
  refine awp_loop2 [0, 1] [] (fun k : Nat => [(5, iv k)]) (fun _ => []) (fun k => k ≤ l.length) (fun k => l.length - k) 0 (weak_mk some (by simp) (by simp) rfl) (by simp) ?_
  intro k hk
  by_cases hlt : k < l.length
  · simp [hlt]
    rw [wrap_id ((k : Int) + 1) (by omega) (by omega)]
    exact Round.mk (k + 1) (weak_mk some (by simp) (by simp) rfl) hlt (by omega)
  · obtain rfl : k = l.length := by omega
    simp
theorem before9_spec (a b : Bool) (u v : List Int) (hu : u.length < 1000000) (hv : v.length < 1000000) : ACalls1 Tryz.prog 87 [.sl 1 a (ints u), .sl 1 b (ints v)] (bv (decide (cmpW u v < 0))) := by
  refine walk (fun _ => false) mixed Go.Proofs.Tryz.func87 rfl rfl rfl (by kernel_rfl) rfl (by simp) (by kernel_rfl) ?_
  simp
  unfold cmpW
  by_cases h : u.length = v.length
  · simp [h]
    refine awp_loop2 [0, 1] [] (fun k : Nat => [(5, iv k)]) (fun _ => []) (fun k => k ≤ u.length ∧ lexC (u.drop k) (v.drop k) = lexC u v) (fun k => u.length - k) 0 (weak_mk some (by simp) (by simp) rfl) (by simp) ?_
    rintro k ⟨hk, hl⟩
    by_cases hlt : k < u.length
    · have hlv : k < v.length := by omega
      rw [List.drop_eq_getElem_cons hlt, List.drop_eq_getElem_cons hlv, ← nth_at hlt, ← nth_at hlv, lexC] at hl
      by_cases he : nth u k = nth v k
      · rw [he] at hl
        simp at hl
        simp [hlt, hlv, he, show k + 1 ≤ u.length from hlt, show k + 1 ≤ v.length from hlv]
        try rw [wrap_id ((k : Int) + 1) (by omega) (by omega)]
        exact Round.mk (k + 1) (weak_mk some (by simp) (by simp) rfl) ⟨hlt, hl⟩ (by omega)
      · by_cases h1 : nth u k < nth v k
        · rw [if_pos h1] at hl
          simp [hlt, hlv, he, h1, ← hl]
        · rw [if_neg h1, if_pos (by omega)] at hl
          simp [hlt, hlv, he, h1, ← hl]
          try omega
    · obtain rfl : k = u.length := by omega
      rw [List.drop_length, h, List.drop_length] at hl
      rw [← hl]
      simp [h, lexC]
  · have h' : ¬ (u.length : Int) = v.length := by omega
    simp [h, h']
    omega
theorem rising9_yes (a b : Bool) (rs : List (List Int)) (hl : rs.length < 1000000) (hr : ∀ r ∈ rs, r.length < 1000000) (hs : Strict rs) : ACalls1 Tryz.prog 26 [.sl 1 a (srows b rs)] (bv true) := by
  refine walk (fun _ => false) mixed Go.Proofs.Tryz.func26 rfl rfl rfl (by kernel_rfl) rfl (by simp) (by kernel_rfl) ?_
  simp
  refine awp_loop2 [0] [] (fun k : Nat => [(3, iv ((k : Int) + 1))]) (fun _ => []) (fun k => k ≤ rs.length) (fun k => rs.length - k) 0 (weak_mk some (by simp) (by simp) rfl) (by simp) ?_
  intro k hk
  by_cases hlt : k + 1 < rs.length
  · have hc := strict_nthR hs (show k < k + 1 by omega) hlt
    have w0 : IntKind.i64.wrap (k : Int) = (k : Int) := wrap_id _ (by omega) (by omega)
    have w1 : IntKind.i64.wrap ((k : Int) + 1 + 1) = ((k + 1 : Nat) : Int) + 1 := by rw [wrap_id _ (by omega) (by omega)]; omega
    have t1 : ((k : Int) + 1).toNat = k + 1 := by omega
    have i1 : (k : Int) + 1 < (rs.length : Int) := by omega
    simp [hlt, w0, t1, i1, show k < rs.length by omega, show (0 : Int) ≤ (k : Int) + 1 by omega]
    repeat (rw [exE_eq]; simp [hlt, w0, t1, i1, show k < rs.length by omega, show (0 : Int) ≤ (k : Int) + 1 by omega])
    refine ⟨_, before9_spec b b _ _ (hr _ (nthR_mem (by omega))) (hr _ (nthR_mem hlt)), ?_⟩
    simp [hc, w1]
    exact Round.mk (k + 1) (weak_mk some (by simp) (by simp) rfl) (by omega) (by omega)
  · simp [show ¬ (k : Int) + 1 < (rs.length : Int) by omega]
theorem IsPrefix_yes (a b : Bool) (x : AlphaV) (hx : isAlphaV x = true) (u v : List Int) (hu : overW x.depends.length u = true) (hv : overW x.depends.length v = true) : ACalls1 Tryz.prog 44 [alphaSl a x, .sl 1 b (ints u), .sl 1 b (ints v)] (.tup [bv (withinI x.depends u v), iv 0]) := by
  have hT := symT_ofV hx
  obtain ⟨e1, hu1, _⟩ := overW_wn hu
  obtain ⟨e2, hu2, _⟩ := overW_wn hv
  have q1 := quotient_spec a b b x.depends hT.ok (wn u) (wn v) hu1 hu2
  rw [← e1, ← e2] at q1
  rw [show (cutN x.depends (wn u) (wn v)).isSome = withinI x.depends u v from rfl] at q1
  have hck := checkWords_yes a b true x hx [u, v] (by simp) (by simp [hu, hv])
  refine walk (fun t => t == 3 || t == 4014) mixed Go.Proofs.Tryz.func44 rfl rfl rfl (by kernel_rfl) rfl (by simp) (by kernel_rfl) ?_
  simp
  refine ⟨_, hck, ?_⟩
  simp
  refine ⟨_, ties_spec a x, ?_⟩
  simp
  refine ⟨_, q1, ?_⟩
  simp
theorem IsPrefix_yesF (a d : Bool) (x : AlphaV) (hx : isAlphaV x = true) (u v : List Int) (hu : overW x.depends.length u = true) (hv : overW x.depends.length v = true) : ACalls1 Tryz.prog 44 [alphaSl a x, .sl 1 false (ints u), .sl 1 d (ints v)] (.tup [bv (withinI x.depends u v), iv 0]) := by
  refine (IsPrefix_yes a false x hx u v hu hv).args (fun w I B vs h => ?_) rfl
  obtain rfl := immL_nil _ _ _ rfl h
  obtain ⟨B', h', hs⟩ := LeL.rep (.cons (.refl _) (.cons (.refl _) (.cons (.slNn _ _ _) .nil))) h
  obtain rfl : B' = [] := List.sublist_nil.1 hs
  exact h'
theorem within9_yes (a b d : Bool) (x : AlphaV) (hx : isAlphaV x = true) (P : List (List Int)) (h16 : P.length ≤ 16) (hP : ∀ r ∈ P, overW x.depends.length r = true) (w : List Int) (hw : overW x.depends.length w = true) : ACalls1 Tryz.prog 27 [alphaSl a x, .sl 1 b (srows false P), .sl 1 d (ints w)] (.tup [iv (cmask x.depends P (wn w)), bv true]) := by
  refine walk (fun t => t == 3) mixed Go.Proofs.Tryz.func27 rfl rfl rfl (by kernel_rfl) rfl (by simp) (by kernel_rfl) ?_
  simp
  refine awp_loop2 [1, 2, 3] [] (fun k : Nat => [(9, iv k), (8, iv (orMask 0 (fun e => withinN x.depends (wn (nthR P e)) (wn w)) k))]) (fun _ => []) (fun k => k ≤ P.length) (fun k => P.length - k) 0 (weak_mk some (by simp [orMask]) (by simp) rfl) (by simp) ?_
  intro k hk
  by_cases hlt : k < P.length
  · have hc := IsPrefix_yesF a d x hx (nthR P k) w (hP _ (nthR_mem hlt)) hw
    have hstep : orMask 0 (fun e => withinN x.depends (wn (nthR P e)) (wn w)) (k + 1) = if withinI x.depends (nthR P k) w = true then ibits .or .i64 (orMask 0 (fun e => withinN x.depends (wn (nthR P e)) (wn w)) k) (pow1 k) else orMask 0 (fun e => withinN x.depends (wn (nthR P e)) (wn w)) k := rfl
    have sk : IntKind.i64.wrap (2 ^ min k 64) = pow1 k := by
      unfold pow1
      rw [if_pos (by omega), Int.toNat_natCast, Nat.min_eq_left (by omega)]
    generalize orMask 0 (fun e => withinN x.depends (wn (nthR P e)) (wn w)) k = mk at *
    simp [hlt]
    refine ⟨_, hc, ?_⟩
    cases hb : withinI x.depends (nthR P k) w
    · rw [hb, if_neg (by simp)] at hstep
      simp [wrap_id ((k : Int) + 1) (by omega) (by omega)]
      exact Round.mk (k + 1) (weak_mk some (by simp [hstep]) (by simp) rfl) hlt (by omega)
    · rw [hb, if_pos rfl] at hstep
      simp [wrap_id ((k : Int) + 1) (by omega) (by omega), sk]
      exact Round.mk (k + 1) (weak_mk some (by simp [hstep]) (by simp) rfl) hlt (by omega)
  · obtain rfl : k = P.length := by omega
    simp [cmask]
theorem PrS.tconf {x : AlphaV} (hx : isAlphaV x = true) {rs P : List (List Int)} (h : PrS x.depends rs P) {v : List Nat} (hv : ∀ c ∈ v, c < x.depends.length) (h24 : v.length ≤ 24) {w : List Int} (hw : w ∈ rs) (hvw : Pre x.depends v (wn w)) : traceOfConfigurationV x (structP x.depends rs P) (cmask x.depends P v) = (nats (nf x.depends v), 0) := by
  have hlab : labOk x (structP x.depends rs P) = true := by
    unfold labOk
    rw [List.all_eq_true]
    intro y hy
    obtain ⟨e, he, rfl⟩ := List.mem_iff_getElem.1 hy
    rw [← nth_at he]
    have he' : e < P.length := by rw [h.len] at he; exact he
    obtain ⟨l1, l2, l3⟩ := h.label he'
    have := (alOk_of hx).let_
    simp only [l1, Bool.and_eq_true, decide_eq_true_eq]
    omega
  unfold traceOfConfigurationV
  rw [if_pos hx, if_pos h.struc, h.len, if_pos (h.cm v).1, if_pos hlab, if_pos (h.conf hv hw hvw), h.word hv h24 hw hvw]
theorem structP_ok {x : AlphaV} (hx : isAlphaV x = true) {rs P : List (List Int)} (h : PrS x.depends rs P) : StructureOk (structP x.depends rs P) := by
  have h16 := h.n
  have h8 := h.n8
  have hlen := h.len
  have hs := struc_len h.struc
  refine ⟨⟨by unfold Fits; omega, fun y hy => ?_⟩, ⟨by unfold Fits; omega, fun y hy => ?_⟩, ⟨by unfold Fits; omega, fun y hy => ?_⟩⟩
  · obtain ⟨i, hi, rfl⟩ := List.mem_iff_getElem.1 hy
    rw [← nth_at hi]; exact I64_of_M (isM_spec (by omega) (h.belowM (e := i) (by omega))).1
  · obtain ⟨i, hi, rfl⟩ := List.mem_iff_getElem.1 hy
    rw [← nth_at hi]; exact I64_of_M (isM_spec (by omega) (h.clashM (e := i) (by omega))).1
  · obtain ⟨i, hi, rfl⟩ := List.mem_iff_getElem.1 hy
    rw [← nth_at hi]
    obtain ⟨l1, l2, l3⟩ := h.label (e := i) (by omega)
    rw [l1]; unfold I64; omega
theorem primes9_yes (a b c d : Bool) (x : AlphaV) (hx : isAlphaV x = true) (rs P : List (List Int)) (h : PrS x.depends rs P) : ACalls1 Tryz.prog 25 [alphaSl a x, strucSl b c d (structP x.depends rs P)] (.tup [.own 1 true (orows false P), bv true]) := by
  have hok := alOk_of hx
  have h8 := hok.len
  have hxo : AlphabetOk x := ⟨by rw [hok.let_]; unfold I64; omega, by unfold Fits; omega, fun y hy => by
    obtain ⟨i, hi, rfl⟩ := List.mem_iff_getElem.1 hy
    rw [← nth_at hi]; exact I64_of_M (alOk_M hok hi).1⟩
  have hst := h.struc
  have hso := structP_ok hx h
  have hlen := h.len
  have h16 := h.n
  have hH : ∀ k, k < P.length → historyOfV (structP x.depends rs P) (k : Int) = (cmask x.depends P (wn (nthR P k)), 0) := fun k hk => by
    have h9 : evCode (structP x.depends rs P) [(k : Int)] = 0 := by
      unfold evCode evIn
      simp [hst, hlen]
      omega
    unfold historyOfV
    rw [if_pos h9, Int.toNat_natCast, h.hist hk]
  have hTc : ∀ k, k < P.length → traceOfConfigurationV x (structP x.depends rs P) (cmask x.depends P (wn (nthR P k))) = (nthR P k, 0) := fun k hk => by
    have hm := nthR_mem hk
    obtain ⟨f1, f2, f3, f4, f5⟩ := pr_facts h.sy h.p hm
    obtain ⟨w, hw, hp⟩ := h.i _ hm
    rw [h.tconf hx f1 f2 hw hp, f5, ← f4]
  have hcI : ∀ k, k < P.length → I64 (cmask x.depends P (wn (nthR P k))) := fun k hk => I64_of_M (isM_spec (by omega) (h.cm _).1).1
  have hlab : ∀ k, k < P.length → nth (structP x.depends rs P).labels k = nth (nthR P k) ((nthR P k).length - 1) := fun k hk => (h.label hk).1
  have hne : ∀ k, k < P.length → 0 < (nthR P k).length ∧ (nthR P k).length ≤ 24 := fun k hk => by
    obtain ⟨f1, f2, f3, f4, f5⟩ := pr_facts h.sy h.p (nthR_mem hk)
    rw [wn_len] at f2 f3
    exact ⟨f3, f2⟩
  generalize structP x.depends rs P = s at *
  refine walk (fun t => t == 2 || t == 3) mixed Go.Proofs.Tryz.func25 rfl rfl rfl (by kernel_rfl) rfl (by simp) (by kernel_rfl) ?_
  simp
  refine awp_loop2 [2, 3] [] (fun k : Nat => [(7, iv k), (6, .ref 200)]) (fun k => [(200, .own 1 true (orows false (P.take k)))]) (fun k => k ≤ P.length) (fun k => P.length - k) 0 (weak_mk (fun t => if t = 200 then some 12 else some t) (by simp) (by simp) rfl) (by simp) ?_
  intro k hk
  by_cases hlt : k < P.length
  · have htk : P.take (k + 1) = P.take k ++ [nthR P k] := by rw [List.take_succ_eq_append_getElem hlt, nthR_at hlt]
    have hHk := HistoryOf_spec b c d s hso (k : Int) (by unfold I64; omega)
    rw [hH k hlt] at hHk
    have hTk := TraceOfConfiguration_spec a x hxo b c d s hso _ (hcI k hlt)
    rw [hTc k hlt] at hTk
    have hlk := hlab k hlt
    obtain ⟨n1, n2⟩ := hne k hlt
    have hqs : (P.take k).length = k := by simp; omega
    generalize nthR P k = r at *
    generalize P.take k = qs at *
    have hks : k < s.labels.length := by omega
    have wl : IntKind.i64.wrap ((r.length : Int) - 1) = ((r.length - 1 : Nat) : Int) := by rw [wrap_id _ (by omega) (by omega)]; omega
    have r0 : ¬ r.length = 0 := by omega
    have r1 : r.length - 1 < r.length := by omega
    have r2 : ¬ r = [] := fun h => by subst h; simp at n1
    simp [hks]
    refine ⟨_, hHk, ?_⟩
    simp
    refine ⟨_, hTk, ?_⟩
    simp [hks, wl, r0, r1, r2, hlk, show r.length - 1 + 1 ≤ r.length by omega]
    repeat (rw [exE_eq]; simp [hks, wl, r0, r1, r2, hlk, show r.length - 1 + 1 ≤ r.length by omega])
    try simp [hqs, wrap_id ((k : Int) + 1) (by omega) (by omega)]
    repeat (refine And.intro (by omega) ?_)
    exact Round.mk (k + 1) (weak_mk (fun t => if t = 200 then some 61 else some t) (by simp) (by simp [htk]) rfl) hlt (by omega)
  · obtain rfl : k = P.length := by omega
    simp [hlen]
theorem viewL_app : ∀ (l m : List AV), viewL (l ++ m) = viewL l ++ viewL m
  | [], _ => rfl
  | x :: l, m => by simp only [List.cons_append, viewL, viewL_app l m]
theorem view_own_snoc (rs : List (List Int)) (z : List Int) : viewL (srows true rs ++ [.own 1 true (ints z)]) = srows true (rs ++ [z]) := by
  rw [viewL_app, srows_view]; simp [view, viewL, srows]
theorem l12DrawOne_spec (nn : Bool) (l : List Int) (hl : BysOk l) : ACalls Tryz.prog 78 [.sl 1 nn (bys l)]
    (fun xs r => ∃ a rs, AlSm a ∧ rs.length ≤ 60 ∧ (∀ q ∈ rs, Fits q) ∧ xs = [.sl 1 nn (bys l)] ∧ (r = .tup [alphaSl true a, .own 1 false (srows true rs)] ∨ ∃ z, Fits z ∧ r = .tup [alphaSl true a, .own 1 false (srows true rs ++ [.own 1 true (ints z)])])) := by
  refine walkR (fun t => t == 7010 || t == 6009 || t == 2013 || t == 2015 || t == 2020 || t == 4022 || t == 2043) mixed Go.Proofs.Tryz.func78 rfl rfl rfl (by kernel_rfl) (by simp) (by simp) (by simp) (by kernel_rfl) ?_
  simp
  refine ⟨_, l01From_spec nn l hl, ?_⟩
  have hs := src0_ok hl
  generalize src0 l = s at *
  simp
  refine ⟨_, l02Draw_spec nn l s hs, ?_⟩
  rintro _ _ ⟨s1, a, hs1, ⟨ha, ha4⟩, rfl, rfl⟩
  simp
  refine WkK.mk (weak_frz 11001 rfl (by simp)) ?_
  simp
  have hD := l12DrawList_mv nn true l s1 hs1 a ha 6 6 (by omega) (by omega)
  obtain ⟨d1, d2, _⟩ := dwList_code ha (l := l) hs1 (n := 6) (len := 6) (by omega) (by omega)
  obtain ⟨_, hov, h40⟩ := isFin_rows d2
  have hfit : ∀ q ∈ (dwList a l ((6 : Nat) : Int) ((6 : Nat) : Int) s1).2, Fits q := fun q hq => by have := overW_len (hov q hq); unfold Fits; omega
  generalize dwList a l ((6 : Nat) : Int) ((6 : Nat) : Int) s1 = W at *
  obtain ⟨s2, rs⟩ := W
  simp only at d1 hov h40 hfit hD
  refine ⟨_, _, hD, ?_⟩
  simp
  refine ⟨_, _, l01Next_spec nn l s2 d1 24 (by unfold I64; omega), ?_⟩
  have hs3 := nxS_ok d1 24
  generalize nxS l s2 24 = s3 at *
  generalize nxN l s2 24 = r3 at *
  have ok : ∀ q : List (List Int), q.length ≤ 60 → (∀ y ∈ q, Fits y) → True := fun _ _ _ => trivial
  by_cases h0 : r3 = 0
  · simp [h0]
    refine ⟨_, _, l01Next_spec nn l s3 hs3 5 (by unfold I64; omega), ?_⟩
    generalize nxN l s3 5 = r4 at *
    simp
    repeat (refine And.intro (by first | omega | exact ⟨by kernel_rfl, by kernel_rfl⟩) ?_)
    refine ⟨_, .refl _, a, ⟨ha, ha4⟩, rs ++ [[IntKind.i64.wrap (r4 - 1)]], by simp; omega, fun q hq => ?_, .inl ?_⟩
    · rcases List.mem_append.1 hq with hq | hq
      · exact hfit q hq
      · simp at hq; subst hq; simp [Fits]
    · simp [srows, ints]
  · by_cases h1 : r3 = 1
    · by_cases hp : 0 < rs.length
      · have wl : IntKind.i64.wrap ((rs.length : Int) - 1) = ((rs.length - 1 : Nat) : Int) := by rw [wrap_id _ (by omega) (by omega)]; omega
        have hm := nthR_mem (show rs.length - 1 < rs.length by omega)
        simp [h1, hp, wl, show rs.length - 1 + 1 ≤ rs.length by omega, show rs.length - 1 < rs.length by omega]
        repeat (refine And.intro (by first | omega | exact ⟨by kernel_rfl, by kernel_rfl⟩) ?_)
        refine ⟨_, .refl _, a, ⟨ha, ha4⟩, rs ++ [nthR rs (rs.length - 1)], by simp; omega, fun q hq => ?_, .inl ?_⟩
        · rcases List.mem_append.1 hq with hq | hq
          · exact hfit q hq
          · simp at hq; subst hq; exact hfit _ hm
        · simp [srows]
      · simp [h1, hp]
        repeat (refine And.intro (by first | omega | exact ⟨by kernel_rfl, by kernel_rfl⟩) ?_)
        exact ⟨_, .refl _, a, ⟨ha, ha4⟩, rs, by omega, hfit, .inl rfl⟩
    · by_cases h2 : r3 = 2
      · simp [h2]
        refine ⟨_, _, l01Next_spec nn l s3 hs3 4 (by unfold I64; omega), ?_⟩
        have hb4 := nxN_rng hs3 4
        generalize nxN l s3 4 = r4 at *
        obtain ⟨k, rfl⟩ := Int.eq_ofNat_of_zero_le hb4.1
        have wk : IntKind.i64.wrap (23 + (k : Int)) = ((23 + k : Nat) : Int) := by rw [wrap_id _ (by omega) (by omega)]; omega
        simp [wk]
        repeat (refine And.intro (by first | omega | exact ⟨by kernel_rfl, by kernel_rfl⟩) ?_)
        refine ⟨_, .refl _, a, ⟨ha, ha4⟩, rs, by omega, hfit, .inr ⟨List.replicate (23 + k) 0, by simp [Fits]; omega, ?_⟩⟩
        first | rfl | simp
      · simp [h0, h1, h2]
        repeat (refine And.intro (by first | omega | exact ⟨by kernel_rfl, by kernel_rfl⟩) ?_)
        exact ⟨_, .refl _, a, ⟨ha, ha4⟩, rs, by omega, hfit, .inl rfl⟩
theorem DrawStructureOfTraces_spec (nn : Bool) (l : List Int) (hl : BysOk l) : ACalls Tryz.prog 23 [.sl 1 nn (bys l)]
    (fun xs r => ∃ a rs, AlSm a ∧ rs.length ≤ 61 ∧ (∀ q ∈ rs, Fits q) ∧ xs = [.sl 1 nn (bys l)] ∧ r = .tup [alphaSl true a, .sl 1 false (srows true rs)]) := by
  refine walkR (fun t => t == 7005 || t == 6004) mixed Go.Proofs.Tryz.func23 rfl rfl rfl (by kernel_rfl) (by simp) (by simp) (by simp) (by kernel_rfl) ?_
  simp
  refine ⟨_, l12DrawOne_spec nn l hl, ?_⟩
  rintro _ _ ⟨a, rs, ha, h60, hfit, rfl, rfl | ⟨z, hz, rfl⟩⟩
  · simp
    refine WkK.mk (weak_frz 6001 rfl (by simp)) ?_
    simp
    exact ⟨_, .refl _, a, ha, rs, by omega, hfit, rfl⟩
  · simp
    refine WkK.mk (weak_frz 6001 rfl (by simp)) ?_
    simp
    refine ⟨_, .refl _, a, ha, rs ++ [z], by simp; omega, fun q hq => ?_, ?_⟩
    · rcases List.mem_append.1 hq with hq | hq
      · exact hfit q hq
      · simp at hq; subst hq; exact hz
    · first | rw [view_own_snoc] | (simp [view_own_snoc])
end Go.AM
