/-
  Contracts: normal forms.
-/
import Derived.Test.YthabclhldlikfaaGreatDoorFnGa
import Derived.Test.YthabclhldlikfaaGreatDoorFnTA
set_option linter.unusedVariables false
set_option linter.unusedSimpArgs false
set_option maxRecDepth 100000
set_option maxHeartbeats 1600000
namespace Go.AM
open Go.Proofs
/-- Masks of the letters that depend on each letter. -/
def TOk (t : List Int) : Prop := t.length ≤ 24 ∧ ∀ a, a < t.length → M (nth t a)
/-- Words over so many letters. -/
def WOk (n : Nat) (u : List Nat) : Prop := u.length ≤ 1000000 ∧ ∀ a ∈ u, a < n
def fstS (t : List Int) (s : Int × Int) (a : Nat) : Int × Int := ((if tb s.2 a then s.1 else ibits .or .i64 s.1 (pow1 a)), ibits .or .i64 s.2 (nth t a))
def firstsF (t : List Int) (u : List Nat) : Int × Int := u.foldl (fstS t) (0, 0)
/-- Whether a letter can stand first. -/
def isFree (t : List Int) : List Nat → Nat → Bool
  | [], _ => false
  | b :: u, a => b == a || (!tb (nth t b) a && isFree t u a)
theorem fst_spec {t : List Int} (ht : TOk t) : ∀ (u : List Nat) (s : Int × Int), (∀ a ∈ u, a < t.length) → M s.1 → M s.2 →
    M (u.foldl (fstS t) s).1 ∧ M (u.foldl (fstS t) s).2 ∧ ∀ a, tb (u.foldl (fstS t) s).1 a = (tb s.1 a || (!tb s.2 a && isFree t u a))
  | [], s, _, h1, h2 => ⟨h1, h2, fun a => by simp [isFree]⟩
  | b :: u, s, hu, h1, h2 => by
    have hb := hu b (by simp)
    have hlen := ht.1
    have m1 : M (fstS t s b).1 := by
      unfold fstS; simp only; split
      · exact h1
      · exact M_or h1 (M_pow1 (by omega))
    have m2 : M (fstS t s b).2 := M_or h2 (ht.2 b hb)
    obtain ⟨r1, r2, r3⟩ := fst_spec ht u (fstS t s b) (fun a ha => hu a (by simp [ha])) m1 m2
    refine ⟨r1, r2, fun a => ?_⟩
    rw [List.foldl_cons, r3]
    have e2 : tb (fstS t s b).2 a = (tb s.2 a || tb (nth t b) a) := tb_or h2 (ht.2 b hb) a
    have e1 : tb (fstS t s b).1 a = (tb s.1 a || (!tb s.2 b && decide (b = a))) := by
      unfold fstS; simp only
      cases hs : tb s.2 b
      · simp only [Bool.false_eq_true, if_false]
        rw [tb_or h1 (M_pow1 (by omega)), tb_pow1 (by omega)]; simp
      · simp
    rw [e1, e2, isFree]
    by_cases e : b = a
    · subst e
      cases tb s.1 b <;> cases tb s.2 b <;> simp
    · have : (b == a) = false := by simpa using e
      rw [this]
      simp only [e, decide_false, Bool.and_false, Bool.or_false, Bool.false_or]
      cases tb s.1 a <;> cases tb s.2 a <;> simp
theorem firsts_spec' {t : List Int} (ht : TOk t) {u : List Nat} (hu : ∀ a ∈ u, a < t.length) : M (firstsF t u).1 ∧ ∀ a, tb (firstsF t u).1 a = isFree t u a := by
  obtain ⟨h1, _, h3⟩ := fst_spec ht u (0, 0) hu M_zero M_zero
  exact ⟨h1, fun a => by rw [firstsF, h3]; simp⟩
theorem isFree_mem {t : List Int} : ∀ {u : List Nat} {a : Nat}, isFree t u a = true → a ∈ u
  | [], a, h => by simp [isFree] at h
  | b :: u, a, h => by
    simp only [isFree, Bool.or_eq_true, Bool.and_eq_true, beq_iff_eq] at h
    rcases h with h | h
    · simp [h]
    · exact List.mem_cons_of_mem _ (isFree_mem h.2)
/-- The least letter that can stand first. -/
def lfree (t : List Int) (u : List Nat) : Nat := lowest (firstsF t u).1
theorem lfree_spec {t : List Int} (ht : TOk t) {u : List Nat} (hu : ∀ a ∈ u, a < t.length) (hne : u ≠ []) : lfree t u ∈ u ∧ isFree t u (lfree t u) = true ∧ ∀ a, a < lfree t u → isFree t u a = false := by
  obtain ⟨h1, h2⟩ := firsts_spec' ht hu
  have h0 : (firstsF t u).1 ≠ 0 := by
    intro e
    cases u with
    | nil => exact hne rfl
    | cons b u =>
      have := h2 b
      rw [e] at this
      simp [isFree] at this
  obtain ⟨_, k2, k3, _⟩ := low_spec h1 h0
  have k2' : isFree t u (lfree t u) = true := by rw [← h2]; exact k2
  exact ⟨isFree_mem k2', k2', fun a ha => by rw [← h2]; exact k3 a ha⟩
/-- The normal form. -/
def nfN (t : List Int) : Nat → List Nat → List Nat
  | 0, _ => []
  | k + 1, u => lfree t u :: nfN t k (u.erase (lfree t u))
def nf (t : List Int) (u : List Nat) : List Nat := nfN t u.length u
theorem nf_step {t : List Int} (ht : TOk t) {u : List Nat} (hu : ∀ a ∈ u, a < t.length) (hne : u ≠ []) : nf t u = lfree t u :: nf t (u.erase (lfree t u)) := by
  have hm := (lfree_spec ht hu hne).1
  have hl := List.length_erase_of_mem hm
  have hp : 0 < u.length := List.length_pos_iff.2 hne
  unfold nf
  rw [hl]
  obtain ⟨k, hk⟩ : ∃ k, u.length = k + 1 := ⟨u.length - 1, by omega⟩
  rw [hk]; rfl
theorem nf_perm {t : List Int} (ht : TOk t) : ∀ (k : Nat) {u : List Nat}, u.length = k → (∀ a ∈ u, a < t.length) → (nf t u).Perm u
  | 0, u, h, _ => by
    have : u = [] := List.eq_nil_of_length_eq_zero h
    subst this; exact List.Perm.refl _
  | k + 1, u, h, hu => by
    have hne : u ≠ [] := by intro e; subst e; simp at h
    obtain ⟨hm, _⟩ := lfree_spec ht hu hne
    rw [nf_step ht hu hne]
    have := nf_perm ht k (u := u.erase (lfree t u)) (by rw [List.length_erase_of_mem hm]; omega) (fun a ha => hu a (List.mem_of_mem_erase ha))
    exact (this.cons _).trans (List.perm_cons_erase hm).symm
theorem firsts_spec (n1 n2 : Bool) (t : List Int) (ht : TOk t) (u : List Nat) (hu : WOk t.length u) : ACalls1 Tryz.prog 154 [.sl 1 n1 (ints t), .sl 1 n2 (ints (nats u))] (iv (firstsF t u).1) := by
  obtain ⟨hl, hm⟩ := hu
  have hlen := ht.1
  refine walk (fun _ => false) mixed Go.Proofs.Tryz.func154 rfl rfl rfl (by kernel_rfl) rfl (by simp) (by kernel_rfl) ?_
  simp
  refine awp_loop2 [0, 9, 10] [] (fun k : Nat => [(11, iv k), (5, iv ((u.take k).foldl (fstS t) (0, 0)).1), (6, iv ((u.take k).foldl (fstS t) (0, 0)).2)]) (fun _ => []) (fun k => k ≤ u.length) (fun k => u.length - k) 0 (weak_mk some (by simp) (by simp) rfl) (by simp) ?_
  intro k hk
  by_cases hlt : k < u.length
  · have ha := hm _ (natAt_mem hlt)
    have hst : (u.take (k + 1)).foldl (fstS t) (0, 0) = fstS t ((u.take k).foldl (fstS t) (0, 0)) (natAt u k) := by
      rw [List.take_succ_eq_append_getElem hlt, List.foldl_append, natAt_at hlt]; rfl
    have hM := fst_spec ht (u.take k) (0, 0) (fun a h => hm a (List.mem_of_mem_take h)) M_zero M_zero
    have hnn := nats_nth hlt
    generalize (u.take k).foldl (fstS t) (0, 0) = st at *
    generalize natAt u k = a at *
    simp [hlt, hnn, ha]
    refine ⟨_, has_spec _ hM.2.1 a (by omega), ?_⟩
    cases hb : tb st.2 a
    · simp
      refine ⟨_, one_spec a (by omega), ?_⟩
      simp [hlt, hnn, ha, wrap_id ((k : Int) + 1) (by omega) (by omega)]
      have hst' : fstS t st a = (ibits .or .i64 st.1 (pow1 a), ibits .or .i64 st.2 (nth t a)) := by simp [fstS, hb]
      exact Round.mk (k + 1) (weak_mk some (by simp [hst, hst']) (by simp) rfl) hlt (by omega)
    · simp [hlt, hnn, ha, wrap_id ((k : Int) + 1) (by omega) (by omega)]
      have hst' : fstS t st a = (st.1, ibits .or .i64 st.2 (nth t a)) := by simp [fstS, hb]
      exact Round.mk (k + 1) (weak_mk some (by simp [hst, hst']) (by simp) rfl) hlt (by omega)
  · obtain rfl : k = u.length := by omega
    simp [firstsF]
theorem normal_spec (n1 n2 : Bool) (t : List Int) (ht : TOk t) (u : List Nat) (hu : WOk t.length u) : ACalls1 Tryz.prog 92 [.sl 1 n1 (ints t), .sl 1 n2 (ints (nats u))] (.own 1 true (ints (nats (nf t u)))) := by
  obtain ⟨hl, hm⟩ := hu
  have hlen := ht.1
  refine walk (fun _ => false) mixed Go.Proofs.Tryz.func92 rfl rfl rfl (by kernel_rfl) rfl (by simp) (by kernel_rfl) ?_
  simp
  repeat (refine And.intro (by omega) ?_)
  refine awp_loop2 [0] [] (fun s : List Nat × List Nat => [(5, .ref 100), (6, .sl 1 false (ints (nats s.2)))]) (fun s => [(100, .own 1 true (ints (nats s.1)))]) (fun s => s.1.length + s.2.length = u.length ∧ s.1 ++ nf t s.2 = nf t u ∧ ∀ a ∈ s.2, a < t.length) (fun s => s.2.length) ([], u) (weak_mk (fun t => if t = 100 then some 10 else some t) (by simp) (by simp [nats]) rfl) (by simpa using hm) ?_
  rintro ⟨out, rest⟩ ⟨h1, h2, h3⟩
  simp only at h1 h2 h3
  by_cases hne : rest = []
  · subst hne
    have : nf t [] = [] := rfl
    rw [this, List.append_nil] at h2
    simp [nats, h2]
  · have hp : 0 < rest.length := List.length_pos_iff.2 hne
    obtain ⟨k1, k2, k3⟩ := lfree_spec ht h3 hne
    obtain ⟨m1, m2⟩ := firsts_spec' ht h3
    have hle := List.length_erase_of_mem k1
    simp [hp]
    refine ⟨_, firsts_spec _ _ t ht rest ⟨by omega, h3⟩, ?_⟩
    simp
    refine ⟨_, least_spec _ m1, ?_⟩
    have hlf : lowest (firstsF t rest).1 = lfree t rest := rfl
    rw [hlf]
    simp
    repeat (refine And.intro (by omega) ?_)
    refine ⟨_, withoutFirst_spec _ rest (by omega) _ k1, ?_⟩
    simp
    refine Round.mk (out ++ [lfree t rest], rest.erase (lfree t rest)) (Weak.trans (weak_frz 25 rfl rfl) (weak_mk (fun t => if t = 100 then some 22 else some t) (by simp) (by simp [nats]) rfl)) ⟨by simp; omega, ?_, fun a ha => h3 a (List.mem_of_mem_erase ha)⟩ (by simp only; omega)
    rw [← h2, nf_step ht h3 hne]; simp
def fstI (t : List Int) (u : List Nat) (a : Nat) : Int := if isFree t u a then (u.idxOf a : Nat) else -1
theorem free_at {t : List Int} : ∀ {u : List Nat} {i a : Nat}, i < u.length → (∀ j, j < i → natAt u j ≠ a ∧ tb (nth t (natAt u j)) a = false) → natAt u i = a → isFree t u a = true ∧ u.idxOf a = i
  | [], i, a, h, _, _ => by simp at h
  | b :: u, 0, a, h, _, e => by
    have : b = a := by simpa [natAt] using e
    subst this; simp [isFree]
  | b :: u, i + 1, a, h, hp, e => by
    have h0 := hp 0 (by omega)
    have hb : b ≠ a := by simpa [natAt] using h0.1
    have hd : tb (nth t b) a = false := by simpa [natAt] using h0.2
    obtain ⟨r1, r2⟩ := free_at (t := t) (u := u) (i := i) (a := a) (by simpa using h) (fun j hj => by simpa [natAt] using hp (j + 1) (by omega)) (by simpa [natAt] using e)
    refine ⟨by simp [isFree, hd, r1], ?_⟩
    rw [List.idxOf_cons]
    have : (b == a) = false := by simpa using hb
    simp [this, r2]
theorem free_no {t : List Int} : ∀ {u : List Nat} {i a : Nat}, i < u.length → (∀ j, j < i → natAt u j ≠ a ∧ tb (nth t (natAt u j)) a = false) → natAt u i ≠ a → tb (nth t (natAt u i)) a = true → isFree t u a = false
  | [], i, a, h, _, _, _ => by simp at h
  | b :: u, 0, a, h, _, e, d => by
    have e' : b ≠ a := by simpa [natAt] using e
    have d' : tb (nth t b) a = true := by simpa [natAt] using d
    have : (b == a) = false := by simpa using e'
    simp [isFree, this, d']
  | b :: u, i + 1, a, h, hp, e, d => by
    have h0 := hp 0 (by omega)
    have hb : b ≠ a := by simpa [natAt] using h0.1
    have hd : tb (nth t b) a = false := by simpa [natAt] using h0.2
    have r := free_no (t := t) (u := u) (i := i) (a := a) (by simpa using h) (fun j hj => by simpa [natAt] using hp (j + 1) (by omega)) (by simpa [natAt] using e) (by simpa [natAt] using d)
    have : (b == a) = false := by simpa using hb
    simp [isFree, this, r]
theorem free_none {t : List Int} {u : List Nat} {a : Nat} (h : ∀ j, j < u.length → natAt u j ≠ a) : isFree t u a = false := by
  cases hf : isFree t u a
  · rfl
  · obtain ⟨i, hi, e⟩ := List.mem_iff_getElem.1 (isFree_mem hf)
    exact absurd (by rw [natAt_at hi]; exact e) (h i hi)
theorem l02Dep_spec (a0 : Bool) (x : AlphaV) (ht : TOk x.depends) (a b : Nat) (ha : a < x.depends.length) (hb : b < 1000000) : ACalls1 Tryz.prog 181 [alphaSl a0 x, iv a, iv b] (bv (tb (nth x.depends a) b)) := by
  refine walk (fun t => t == 3) mixed Go.Proofs.Tryz.func181 rfl rfl rfl (by kernel_rfl) rfl (by simp) (by kernel_rfl) ?_
  simp [ha]
  refine ⟨_, l01Bit_spec _ (ht.2 a ha) b (by omega), ?_⟩
  simp
theorem l03First_spec (a0 n2 : Bool) (x : AlphaV) (ht : TOk x.depends) (u : List Nat) (hu : WOk x.depends.length u) (a : Nat) (ha : a < 1000000) : ACalls1 Tryz.prog 182 [alphaSl a0 x, .sl 1 n2 (ints (nats u)), iv a] (iv (fstI x.depends u a)) := by
  obtain ⟨hl, hm⟩ := hu
  refine walk (fun t => t == 3) mixed Go.Proofs.Tryz.func182 rfl rfl rfl (by kernel_rfl) rfl (by simp) (by kernel_rfl) ?_
  simp
  refine awp_loop2 [1, 2, 3] [] (fun k : Nat => [(7, iv k)]) (fun _ => []) (fun k => k ≤ u.length ∧ ∀ j, j < k → natAt u j ≠ a ∧ tb (nth x.depends (natAt u j)) a = false) (fun k => u.length - k) 0 (weak_mk some (by simp) (by simp) rfl) (by simp) ?_
  rintro k ⟨hk, hp⟩
  by_cases hlt : k < u.length
  · have hb := hm _ (natAt_mem hlt)
    have hnn := nats_nth hlt
    by_cases e : natAt u k = a
    · obtain ⟨r1, r2⟩ := free_at hlt hp e
      simp [hlt, hnn, e, fstI, r1, r2]
    · simp [hlt, hnn, e]
      repeat (rw [exE_eq]; simp [hlt, hnn, e])
      refine ⟨_, l02Dep_spec _ x ht _ a hb ha, ?_⟩
      cases hd : tb (nth x.depends (natAt u k)) a
      · simp [wrap_id ((k : Int) + 1) (by omega) (by omega)]
        refine Round.mk (k + 1) (weak_mk some (by simp) (by simp) rfl) ⟨hlt, fun j hj => ?_⟩ (by omega)
        by_cases e1 : j = k
        · subst e1; exact ⟨e, hd⟩
        · exact hp j (by omega)
      · simp [fstI, free_no hlt hp e hd]
  · obtain rfl : k = u.length := by omega
    simp [fstI, free_none (t := x.depends) (fun j hj => (hp j hj).1)]
theorem l03Normal_spec (a0 n2 : Bool) (x : AlphaV) (hx : x.letters = x.depends.length) (ht : TOk x.depends) (u : List Nat) (hu : WOk x.depends.length u) : ACalls1 Tryz.prog 123 [alphaSl a0 x, .sl 1 n2 (ints (nats u))] (.own 1 true (ints (nats (nf x.depends u)))) := by
  obtain ⟨hl, hm⟩ := hu
  have hlen := ht.1
  refine walk (fun t => t == 2) mixed Go.Proofs.Tryz.func123 rfl rfl rfl (by kernel_rfl) rfl (by simp) (by kernel_rfl) ?_
  simp
  refine ⟨_, l01Own_spec _ _ (by simp [Fits]; omega), ?_⟩
  simp
  refine awp_loop2 [2] [] (fun s : List Nat × List Nat => [(5, .ref 100), (6, .ref 101)]) (fun s => [(100, .own 1 true (ints (nats s.1))), (101, .own 1 false (ints (nats s.2)))]) (fun s => s.1.length + s.2.length = u.length ∧ s.1 ++ nf x.depends s.2 = nf x.depends u ∧ ∀ a ∈ s.2, a < x.depends.length) (fun s => s.2.length) ([], u) (weak_mk (fun t => if t = 100 then some 9 else if t = 101 then some 11 else some t) (by simp) (by simp [nats]) rfl) (by simpa using hm) ?_
  rintro ⟨out, rest⟩ ⟨h1, h2, h3⟩
  simp only at h1 h2 h3
  by_cases hne : rest = []
  · subst hne
    have : nf x.depends [] = [] := rfl
    rw [this, List.append_nil] at h2
    simp [nats, h2]
  · have hp : 0 < rest.length := List.length_pos_iff.2 hne
    obtain ⟨k1, k2, k3⟩ := lfree_spec ht h3 hne
    have hle := List.length_erase_of_mem k1
    have hlf := h3 _ k1
    simp [hp]
    refine awp_loop2 [2, 5, 6] [100, 101] (fun a : Nat => [(7, iv a)]) (fun _ => []) (fun a => a ≤ lfree x.depends rest) (fun a => x.depends.length - a) 0 (weak_mk some (by simp) (by simp) rfl) (by simp) ?_
    intro a ha
    simp [hx, show a < x.depends.length by omega]
    have hF : ACalls1 Tryz.prog 182 [.agg [iv x.depends.length, .sl 1 a0 (ints x.depends)], .sl 1 false (ints (nats rest)), iv a] (iv (fstI x.depends rest a)) := by
      rw [← hx]; exact l03First_spec a0 false x ht rest ⟨by omega, h3⟩ a (by omega)
    refine ⟨_, hF, ?_⟩
    by_cases he : a = lfree x.depends rest
    · subst he
      have hI : fstI x.depends rest (lfree x.depends rest) = (rest.idxOf (lfree x.depends rest) : Nat) := by unfold fstI; rw [k2]; rfl
      rw [hI]
      simp
      repeat (refine And.intro (by omega) ?_)
      refine ⟨_, l03Without_spec _ rest (by omega) _ k1, ?_⟩
      simp
      refine Round.mk (out ++ [lfree x.depends rest], rest.erase (lfree x.depends rest)) (weak_mk (fun t => if t = 100 then some 30 else if t = 101 then some 33 else some t) (by simp) (by simp [nats]) rfl) ⟨by simp; omega, ?_, fun a ha => h3 a (List.mem_of_mem_erase ha)⟩ (by simp only; omega)
      rw [← h2, nf_step ht h3 hne]; simp
    · have hI : fstI x.depends rest a = -1 := by unfold fstI; rw [k3 a (by omega)]; rfl
      rw [hI]
      simp [wrap_id ((a : Int) + 1) (by omega) (by omega)]
      exact Round.mk (a + 1) (weak_mk some (by simp) (by simp) rfl) (by omega) (by omega)
end Go.AM
