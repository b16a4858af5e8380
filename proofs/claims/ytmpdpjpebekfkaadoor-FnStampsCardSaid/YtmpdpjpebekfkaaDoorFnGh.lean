/-
  Counts and second-hand news: StampsOf, KnownCounts, SecondHand.
-/
import Derived.Test.YtmpdpjpebekfkaaDoorFnGg
set_option linter.unusedVariables false
set_option linter.unusedSimpArgs false
set_option maxRecDepth 100000
set_option maxHeartbeats 1600000
namespace Go.AM
open Go.Proofs
def cnt (T : Nat → Bool) : Nat → Nat
  | 0 => 0
  | k + 1 => if T k then cnt T k + 1 else cnt T k
theorem cnt_le (T : Nat → Bool) : ∀ k, cnt T k ≤ k
  | 0 => Nat.le_refl _
  | k + 1 => by
    have := cnt_le T k
    rw [cnt]; split <;> omega
theorem cnt_filter (T : Nat → Bool) : ∀ k, ((List.range k).filter T).length = cnt T k
  | 0 => rfl
  | k + 1 => by
    have := cnt_filter T k
    rw [List.range_succ, List.filter_append, List.length_append, this, cnt]
    cases h : T k <;> simp [h]
/-- What a place tells of a process. -/
def tIn (g : GosV) (c i : Nat) : Bool := tb (nth g.pl (natAt g.f i)) c
def cntT (g : GosV) (m : Int) (N i q : Nat) : List Int := (List.range N).map fun c => (cnt (fun i => tb m i && tIn g c i) (if c < q then i + 1 else i) : Int)
@[simp] theorem cntT_length (g : GosV) (m : Int) (N i q : Nat) : (cntT g m N i q).length = N := by simp [cntT]
theorem cntT_nth {g : GosV} {m : Int} {N i q c : Nat} (h : c < N) : nth (cntT g m N i q) c = (cnt (fun i => tb m i && tIn g c i) (if c < q then i + 1 else i) : Int) := by
  rw [nth_at (by simpa using h)]; simp [cntT]
theorem cntT_no {g : GosV} {m : Int} {N i q : Nat} (h : (tb m i && tIn g q i) = false) : cntT g m N i (q + 1) = cntT g m N i q := by
  apply list_ext (by simp)
  intro c hc
  rw [cntT_length] at hc
  rw [cntT_nth hc, cntT_nth hc]
  by_cases e : c = q
  · subst e
    rw [if_pos (by omega), if_neg (by omega), cnt, h]; simp
  · simp [show (c < q + 1) = (c < q) from propext ⟨fun _ => by omega, fun _ => by omega⟩]
theorem cntT_yes {g : GosV} {m : Int} {N i q : Nat} (hq : q < N) (h : (tb m i && tIn g q i) = true) : (cntT g m N i q).set q (nth (cntT g m N i q) q + 1) = cntT g m N i (q + 1) := by
  apply list_ext (by simp)
  intro c hc
  simp only [List.length_set, cntT_length] at hc
  rw [nth_set _ (by simpa using hq) c (by simpa using hc), cntT_nth hc, cntT_nth hc, cntT_nth hq]
  by_cases e : c = q
  · subst e
    rw [if_pos rfl, if_neg (by omega), if_pos (by omega), cnt, h]; simp
  · rw [if_neg e]
    simp [show (c < q + 1) = (c < q) from propext ⟨fun _ => by omega, fun _ => by omega⟩]
theorem cntT_next {g : GosV} {m : Int} {N i : Nat} : cntT g m N i N = cntT g m N (i + 1) 0 := by
  apply list_ext (by simp)
  intro c hc
  rw [cntT_length] at hc
  rw [cntT_nth hc, cntT_nth hc, if_pos hc, if_neg (by omega)]
theorem cntT_start {g : GosV} {m : Int} {N : Nat} : List.replicate N (0 : Int) = cntT g m N 0 0 := by
  apply List.ext_getElem
  · simp
  · intro i h1 h2; simp [cntT, cnt]
def countL (g : GosV) (m : Int) : List Int := cntT g m g.n.toNat g.f.length 0
/-! The other road: places of masks, one after the other. -/
def bump (o : List Int) (c : Nat) : List Int := o.set c (nth o c + 1)
def bumps (o : List Int) (l : List Nat) : List Int := l.foldl bump o
def Bn (y : Int) : List Nat := (List.range 63).filter fun i => tb y i
def cB (g : GosV) (o : List Int) (i : Nat) : List Int := bumps o (Bn (nth g.pl (natAt g.f i)))
theorem bumps_length : ∀ (l : List Nat) (o : List Int), (bumps o l).length = o.length
  | [], _ => rfl
  | a :: l, o => by
    have := bumps_length l (bump o a)
    simp only [bumps, List.foldl_cons] at this ⊢
    rw [this]; simp [bump]
theorem bumps_nth : ∀ (l : List Nat) (o : List Int), (∀ x ∈ l, x < o.length) → ∀ c, c < o.length → nth (bumps o l) c = nth o c + l.count c
  | [], o, _, c, _ => by simp [bumps]
  | a :: l, o, h, c, hc => by
    have ha := h a (by simp)
    have := bumps_nth l (bump o a) (fun x hx => by simp [bump]; exact h x (by simp [hx])) c (by simpa [bump] using hc)
    simp only [bumps, List.foldl_cons] at this ⊢
    rw [this, bump, nth_set _ ha c hc, List.count_cons]
    by_cases e : c = a
    · subst e; simp; omega
    · have e' : ¬ a = c := fun h => e h.symm
      simp [e, e']
theorem count_Bn {y : Int} {c : Nat} : ∀ n, ((List.range n).filter fun i => tb y i).count c = if c < n ∧ tb y c = true then 1 else 0
  | 0 => by simp
  | n + 1 => by
    have ih := count_Bn (y := y) (c := c) n
    rw [List.range_succ, List.filter_append, List.count_append, ih]
    by_cases e : c = n
    · subst e
      cases h : tb y c <;> simp [h]
    · have e' : ¬ n = c := fun h => e h.symm
      have : (c < n + 1) = (c < n) := propext ⟨fun _ => by omega, fun _ => by omega⟩
      simp only [this]
      cases h : tb y n <;> simp [h, e']
theorem Bn_length (y : Int) : (Bn y).length ≤ 63 := by
  have := List.length_filter_le (fun i => tb y i) (List.range 63)
  rw [List.length_range] at this; exact this
theorem Bn_lt {y : Int} {N : Nat} (h : ∀ i : Nat, N ≤ i → tb y i = false) : ∀ c ∈ Bn y, c < N ∧ tb y c = true := by
  intro c hc
  simp only [Bn, List.mem_filter, List.mem_range] at hc
  refine ⟨?_, hc.2⟩
  by_cases hx : c < N
  · exact hx
  · rw [h c (by omega)] at hc; simp at hc
theorem cB_length (g : GosV) (l : List Nat) : ∀ (o : List Int), (l.foldl (cB g) o).length = o.length := by
  induction l with
  | nil => intro o; rfl
  | cons a l ih => intro o; rw [List.foldl_cons, ih, cB, bumps_length]
theorem cB_nth {g : GosV} {N : Nat} (hN : N ≤ 63) : ∀ (l : List Nat) (o : List Int), o.length = N → (∀ i ∈ l, ∀ c : Nat, N ≤ c → tIn g c i = false) → ∀ c, c < N → nth (l.foldl (cB g) o) c = nth o c + (l.filter fun i => tIn g c i).length
  | [], o, _, _, c, _ => by simp
  | a :: l, o, ho, h, c, hc => by
    have hb : ∀ x ∈ Bn (nth g.pl (natAt g.f a)), x < o.length := fun x hx => by rw [ho]; exact (Bn_lt (h a (by simp)) x hx).1
    have := cB_nth hN l (cB g o a) (by rw [cB, bumps_length, ho]) (fun i hi => h i (by simp [hi])) c hc
    rw [List.foldl_cons, this, cB, bumps_nth _ _ hb c (by omega), List.filter_cons]
    have e : (Bn (nth g.pl (natAt g.f a))).count c = if tIn g c a = true then 1 else 0 := by
      rw [Bn, count_Bn]
      by_cases ht : tb (nth g.pl (natAt g.f a)) c = true <;> simp [tIn, ht, show c < 63 by omega]
    rw [e]
    by_cases ht : tIn g c a = true
    · simp [ht]; omega
    · simp [ht]
theorem cB_end {g : GosV} (hg : GosOk g) {m : Int} (hm : ∀ i, g.f.length ≤ i → tb m i = false) (hpl : ∀ i, i < g.f.length → ∀ c : Nat, g.n.toNat ≤ c → tIn g c i = false) (hn : g.n.toNat ≤ 63) : (Bn m).foldl (cB g) (List.replicate g.n.toNat 0) = countL g m := by
  have hlen := hg.len
  apply list_ext (by rw [cB_length]; simp [countL])
  intro c hc
  rw [cB_length, List.length_replicate] at hc
  rw [cB_nth hn _ _ (by simp) (fun i hi => hpl i (Bn_lt hm i hi).1) c hc, countL, cntT_nth hc, if_neg (by omega), ← cnt_filter]
  have e0 : nth (List.replicate g.n.toNat (0 : Int)) c = 0 := by rw [nth_at (by simpa using hc)]; simp
  rw [e0, Bn, List.filter_filter, filter_range_le (N := 63) (n := g.f.length) (by omega) (fun i hi => by simp [hm i hi])]
  simp [Bool.and_comm]
theorem cnt_facts {g : GosV} (hg : GosOk g) : ∀ i, i < g.f.length → ∀ c : Nat, g.n.toNat ≤ c → tIn g c i = false := by
  intro i hi c hc
  obtain ⟨h8, h1, h4, hF⟩ := gos_facts hg
  exact (pl_mask hg.pl _ (hF i hi).1).2.2 c (by omega)
theorem countL_ok {g : GosV} (hg : GosOk g) (m : Int) : (countL g m).length ≤ 4 ∧ ListOk (countL g m) := by
  obtain ⟨h8, h1, h4, _⟩ := gos_facts hg
  have hlen := hg.len
  have e : (countL g m).length = g.n.toNat := by simp [countL]
  refine ⟨by omega, by unfold Fits; omega, fun x hx => ?_⟩
  obtain ⟨c, _, rfl⟩ := List.mem_map.1 hx
  simp only [Nat.not_lt_zero, if_false]
  have := cnt_le (fun i => tb m i && tIn g c i) g.f.length
  unfold I64; omega
theorem l15Counts_spec (a b c : Bool) (g : GosV) (hg : GosOk g) (m : Int) (hm : isM g.f.length m = true) : ACalls1 Tryd.prog 79 [gosSl a b c g, iv m] (.own 1 true (ints (countL g m))) := by
  have hlen := hg.len
  obtain ⟨hM, hb⟩ := isM_spec (by omega) hm
  obtain ⟨h8, h1, h4, hF⟩ := gos_facts hg
  obtain ⟨N, hN⟩ := Int.eq_ofNat_of_zero_le (show 0 ≤ g.n by omega)
  have hend : countL g m = cntT g m N g.f.length 0 := by unfold countL; rw [hN]; simp
  rw [hend]
  refine walk (fun t => t == 2) mixed Go.Proofs.Tryd.func79 rfl rfl rfl (by kernel_rfl) rfl (by simp) (by kernel_rfl) ?_
  simp [hN]
  repeat (refine And.intro (by omega) ?_)
  have hst := cntT_start (g := g) (m := m) (N := N)
  rw [hst]
  refine awp_loop2 [1, 2] [] (fun i : Nat => [(6, iv i), (5, .ref 100)]) (fun i => [(100, .own 1 true (ints (cntT g m N i 0)))]) (fun i => i ≤ g.f.length) (fun i => g.f.length - i) 0 (weak_mk (fun t => if t = 100 then some 10 else some t) (by simp) (by simp) rfl) (by simp) ?_
  intro i hi
  by_cases hil : i < g.f.length
  · obtain ⟨f1, f2, f3⟩ := hF i hil
    simp [hil]
    refine awp_loop2 [1, 2, 6] [] (fun q : Nat => [(7, iv q), (5, .ref 100)]) (fun q => [(100, .own 1 true (ints (cntT g m N i q)))]) (fun q => q ≤ N) (fun q => N - q) 0 (weak_mk some (by simp) (by simp) rfl) (by simp) ?_
    intro q hq
    by_cases hql : q < N
    · have gl := cntT_length g m N i q
      have gv := cntT_nth (g := g) (m := m) (i := i) (q := q) hql
      rw [if_neg (by omega)] at gv
      have gc := cnt_le (fun i => tb m i && tIn g q i) i
      have gn := cntT_no (g := g) (m := m) (N := N) (i := i) (q := q)
      have gy := cntT_yes (g := g) (m := m) (N := N) (i := i) (q := q) hql
      generalize cntT g m N i q = o at *
      have hw := wrap_id (nth o q + 1) (by omega) (by omega)
      simp [hql, hN]
      refine ⟨_, l01Bit_spec _ hM i (by omega), ?_⟩
      cases hb1 : tb m i
      · rw [hb1] at gn
        have gn' := gn rfl
        simp [wrap_id ((q : Int) + 1) (by omega) (by omega)]
        repeat (rw [exE_eq]; simp [wrap_id ((q : Int) + 1) (by omega) (by omega)])
        exact Round.mk (q + 1) (weak_mk some (by simp) (by simp [gn']) rfl) hql (by omega)
      · simp [f1, f3, hil]
        repeat (rw [exE_eq]; simp [f1, f3, hil])
        refine ⟨_, l01Bit_spec _ f2 q (by omega), ?_⟩
        cases hb2 : tb (nth g.pl (natAt g.f i)) q
        · have gn' := gn (by rw [hb1]; simp [tIn, hb2])
          simp [wrap_id ((q : Int) + 1) (by omega) (by omega)]
          exact Round.mk (q + 1) (weak_mk some (by simp) (by simp [gn']) rfl) hql (by omega)
        · have gy' := gy (by rw [hb1]; simp [tIn, hb2])
          simp [gl, hql, show q + 1 ≤ N from hql, hw, ints_put, wrap_id ((q : Int) + 1) (by omega) (by omega)]
          repeat (rw [exE_eq]; simp [gl, hql, show q + 1 ≤ N from hql, hw, ints_put, wrap_id ((q : Int) + 1) (by omega) (by omega)])
          exact Round.mk (q + 1) (weak_mk some (by simp) (by simp [gy']) rfl) hql (by omega)
    · obtain rfl : q = N := by omega
      simp [hN, wrap_id ((i : Int) + 1) (by omega) (by omega)]
      exact Round.mk (i + 1) (weak_mk some (by simp) (by simp [cntT_next]) rfl) hil (by omega)
  · obtain rfl : i = g.f.length := by omega
    simp
theorem counts_spec (a b c : Bool) (g : GosV) (hg : GosOk g) (m : Int) (hm : isM g.f.length m = true) : ACalls1 Tryd.prog 78 [gosSl a b c g, iv m] (.own 1 true (ints (countL g m))) := by
  have hlen := hg.len
  obtain ⟨hM, hb⟩ := isM_spec (by omega) hm
  obtain ⟨h8, h1, h4, hF⟩ := gos_facts hg
  have hcf := cnt_facts hg
  have hend := cB_end hg hb hcf (by omega)
  rw [← hend]
  obtain ⟨N, hN⟩ := Int.eq_ofNat_of_zero_le (show 0 ≤ g.n by omega)
  have hN' : g.n.toNat = N := by omega
  rw [hN'] at hcf ⊢
  have hmem : ∀ y, M y → ACalls1 Tryd.prog 123 [iv y] (.own 1 true (ints (nats (Bn y)))) := fun y hy => members_spec y hy
  have hBl := Bn_length m
  refine walk (fun t => t == 2 || t == 3014 || t == 3029) mixed Go.Proofs.Tryd.func78 rfl rfl rfl (by kernel_rfl) rfl (by simp) (by kernel_rfl) ?_
  simp [hN]
  repeat (refine And.intro (by omega) ?_)
  refine ⟨_, hmem m hM, ?_⟩
  simp
  refine awp_loop2 [2, 14, 15] [] (fun j : Nat => [(16, iv j), (5, .ref 100)]) (fun j => [(100, .own 1 true (ints (((Bn m).take j).foldl (cB g) (List.replicate N 0))))]) (fun j => j ≤ (Bn m).length) (fun j => (Bn m).length - j) 0 (weak_mk (fun t => if t = 100 then some 12 else some t) (by simp) (by simp) rfl) (by simp) ?_
  intro j hj
  by_cases hjl : j < (Bn m).length
  · have hni := nats_nth hjl
    have hin := Bn_lt hb _ (natAt_mem hjl)
    have hts : ((Bn m).take (j + 1)).foldl (cB g) (List.replicate N 0) = cB g (((Bn m).take j).foldl (cB g) (List.replicate N 0)) (natAt (Bn m) j) := by
      rw [List.take_succ_eq_append_getElem hjl, List.foldl_append, natAt_at hjl]; rfl
    have hol := cB_length g ((Bn m).take j) (List.replicate N 0)
    rw [List.length_replicate] at hol
    have hov : ∀ c, c < N → nth (((Bn m).take j).foldl (cB g) (List.replicate N 0)) c ≤ 63 ∧ 0 ≤ nth (((Bn m).take j).foldl (cB g) (List.replicate N 0)) c := fun c hc => by
      have := cB_nth (g := g) (N := N) (by omega) ((Bn m).take j) (List.replicate N 0) (by simp) (fun i hi => hcf i (Bn_lt hb i (List.mem_of_mem_take hi)).1) c hc
      have e0 : nth (List.replicate N (0 : Int)) c = 0 := by rw [nth_at (by simpa using hc)]; simp
      have e1 := length_filter_take (fun i => tIn g c i) (Bn m) j
      rw [this, e0]; omega
    generalize ((Bn m).take j).foldl (cB g) (List.replicate N 0) = o at *
    generalize natAt (Bn m) j = i at *
    obtain ⟨f1, f2, f3⟩ := hF i hin.1
    have hBi := Bn_lt (y := nth g.pl (natAt g.f i)) (N := N) (hcf i hin.1)
    have hBil := Bn_length (nth g.pl (natAt g.f i))
    rw [cB] at hts
    generalize hB : Bn (nth g.pl (natAt g.f i)) = B at *
    simp [hjl, hni, f1, f3, hin.1]
    repeat (rw [exE_eq]; simp [hjl, hni, f1, f3, hin.1])
    refine ⟨_, hmem _ f2, ?_⟩
    rw [hB]
    simp
    refine awp_loop2 [2, 14, 15, 16, 29, 30] [] (fun r : Nat => [(31, iv r), (5, .ref 100)]) (fun r => [(100, .own 1 true (ints (bumps o (B.take r))))]) (fun r => r ≤ B.length) (fun r => B.length - r) 0 (weak_mk some (by simp) (by simp [bumps]) rfl) (by simp) ?_
    intro r hr
    by_cases hrl : r < B.length
    · have hnr := nats_nth hrl
      have hcl := (hBi _ (natAt_mem hrl)).1
      have hbs : bumps o (B.take (r + 1)) = bump (bumps o (B.take r)) (natAt B r) := by
        unfold bumps
        rw [List.take_succ_eq_append_getElem hrl, List.foldl_append, natAt_at hrl]; rfl
      have hbl := bumps_length (B.take r) o
      have hbn := bumps_nth (B.take r) o (fun x hx => by rw [hol]; exact (hBi x (List.mem_of_mem_take hx)).1) (natAt B r) (by omega)
      have hco : (B.take r).count (natAt B r) ≤ 63 := by
        have := List.count_le_length (a := natAt B r) (l := B.take r)
        rw [List.length_take] at this; omega
      have hoo := hov _ hcl
      rw [bump] at hbs
      generalize bumps o (B.take r) = o2 at *
      generalize natAt B r = c at *
      have hw := wrap_id (nth o2 c + 1) (by omega) (by omega)
      simp [hrl, hnr, show c < o2.length by omega, show c + 1 ≤ o2.length by omega, hw, ints_put, wrap_id ((r : Int) + 1) (by omega) (by omega)]
      repeat (rw [exE_eq]; simp [hrl, hnr, show c < o2.length by omega, show c + 1 ≤ o2.length by omega, hw, ints_put, wrap_id ((r : Int) + 1) (by omega) (by omega)])
      exact Round.mk (r + 1) (weak_mk some (by simp) (by simp [hbs]) rfl) hrl (by omega)
    · obtain rfl : r = B.length := by omega
      simp [wrap_id ((j : Int) + 1) (by omega) (by omega)]
      exact Round.mk (j + 1) (weak_mk some (by simp) (by simp [hts]) rfl) hjl (by omega)
  · obtain rfl : j = (Bn m).length := by omega
    simp
def secL (g : GosV) (v : Int) : List (List Int) := (List.range g.n.toNat).map fun q => latL g (pastOn g (lastOn g v q))
theorem secondIn_spec (a b c : Bool) (g : GosV) (hg : GosOk g) (m : Int) (hm : isM g.f.length m = true) (p : Nat) (hp : p < 63) : ACalls1 Tryd.prog 88 [gosSl a b c g, iv m, iv p] (.own 1 true (orows true (secL g (viewOn g m p)))) := by
  have hlen := hg.len
  obtain ⟨h8, h1, h4, hF⟩ := gos_facts hg
  obtain ⟨N, hN⟩ := Int.eq_ofNat_of_zero_le (show 0 ≤ g.n by omega)
  have hLl : (latL g (viewOn g m p)).length = N := by rw [latL_length]; omega
  refine walk (fun t => t == 3 || t == 3016) mixed Go.Proofs.Tryd.func88 rfl rfl rfl (by kernel_rfl) rfl (by simp) (by kernel_rfl) ?_
  simp
  refine ⟨_, latestIn_spec a b c g hg m hm p hp, ?_⟩
  simp [hN, hLl]
  refine awp_loop2 [3, 16, 17] [] (fun k : Nat => [(7, .ref 100), (18, iv k)]) (fun k => [(100, .own 1 true (orows true ((List.range k).map fun q => latL g (pastOn g (lastOn g (viewOn g m p) q)))))]) (fun k => k ≤ N) (fun k => N - k) 0 (weak_mk (fun t => if t = 100 then some 12 else some t) (by simp) (by simp) rfl) (by simp) ?_
  intro k hk
  by_cases hkl : k < N
  · have hk1 := latL_nth (g := g) (m := viewOn g m p) (q := k) (by omega)
    have hbd := lastOn_bd g (viewOn g m p) k
    have hPM := pastOn_M hg hbd.2
    simp [hkl, hLl, hk1, hN]
    refine awp_loop2 [3, 7, 9, 16, 17, 18, 24] [100] (fun r : Nat => [(10, .ref 101), (25, iv r)]) (fun r => [(101, .own 1 true (ints ((List.range r).map fun q => lastOn g (pastOn g (lastOn g (viewOn g m p) k)) q)))]) (fun r => r ≤ N) (fun r => N - r) 0 (weak_mk (fun t => if t = 101 then some 22 else some t) (by simp) (by simp) rfl) (by simp) ?_
    intro r hr
    by_cases hrl : r < N
    · have hG : ACalls1 Tryd.prog 137 [.agg [iv N, .sl 1 a (ints g.pl), .sl 1 b (ints (nats g.f)), .sl 1 c (ints g.past)], iv (pastOn g (lastOn g (viewOn g m p) k)), iv r] (iv (lastOn g (pastOn g (lastOn g (viewOn g m p) k)) r)) := by
        rw [← hN]; exact lastIn_spec a b c g hg _ hPM r (by omega)
      have hP : ACalls1 Tryd.prog 138 [.agg [iv N, .sl 1 a (ints g.pl), .sl 1 b (ints (nats g.f)), .sl 1 c (ints g.past)], iv (lastOn g (viewOn g m p) k)] (iv (pastOn g (lastOn g (viewOn g m p) k))) := by
        rw [← hN]; exact pastOf_spec a b c g hg _ hbd.1 hbd.2
      simp [hrl]
      refine ⟨_, hP, ?_⟩
      simp
      refine ⟨_, hG, ?_⟩
      simp [wrap_id ((r : Int) + 1) (by omega) (by omega)]
      repeat (refine And.intro (by first | omega | exact ⟨by kernel_rfl, by kernel_rfl⟩) ?_)
      refine Round.mk (r + 1) (weak_mk (fun t => if t = 101 then some 36 else some t) (by simp) (by simp [List.range_succ]) rfl) hrl (by omega)
    · obtain rfl : r = N := by omega
      simp [wrap_id ((k : Int) + 1) (by omega) (by omega)]
      repeat (refine And.intro (by omega) ?_)
      refine Round.mk (k + 1) (weak_mk (fun t => if t = 100 then some 41 else some t) (by simp) ?_ rfl) hkl (by omega)
      simp [List.range_succ, orows, latL, hN]
  · obtain rfl : k = N := by omega
    simp [secL, hN]
theorem l15Second_spec (a b c : Bool) (g : GosV) (hg : GosOk g) (m : Int) (hm : isM g.f.length m = true) : ACalls1 Tryd.prog 130 [gosSl a b c g, iv m] (.own 1 true (orows true (secL g m))) := by
  have hlen := hg.len
  obtain ⟨h8, h1, h4, hF⟩ := gos_facts hg
  obtain ⟨N, hN⟩ := Int.eq_ofNat_of_zero_le (show 0 ≤ g.n by omega)
  have hLl : (latL g m).length = N := by rw [latL_length]; omega
  refine walk (fun t => t == 2 || t == 3010 || t == 1018) mixed Go.Proofs.Tryd.func130 rfl rfl rfl (by kernel_rfl) rfl (by simp) (by kernel_rfl) ?_
  simp
  refine ⟨_, l15Latest_spec a b c g hg m hm, ?_⟩
  simp [hN]
  refine awp_loop2 [2, 5] [] (fun k : Nat => [(6, .ref 100), (7, iv k)]) (fun k => [(100, .own 1 true (orows true ((List.range k).map fun q => latL g (pastOn g (lastOn g m q)))))]) (fun k => k ≤ N) (fun k => N - k) 0 (weak_mk (fun t => if t = 100 then some 11 else some t) (by simp) (by simp) rfl) (by simp) ?_
  intro k hk
  by_cases hkl : k < N
  · have hk1 := latL_nth (g := g) (m := m) (q := k) (by omega)
    have hbd := lastOn_bd g m k
    have hPM := pastOn_M hg hbd.2
    have hP : ACalls1 Tryd.prog 166 [.agg [iv N, .sl 1 a (ints g.pl), .sl 1 b (ints (nats g.f)), .sl 1 c (ints g.past)], iv (lastOn g m k)] (iv (pastOn g (lastOn g m k))) := by
      rw [← hN]; exact l15PastOf_spec a b c g hg _ hbd.1 hbd.2
    have hG : ACalls1 Tryd.prog 165 [.agg [iv N, .sl 1 a (ints g.pl), .sl 1 b (ints (nats g.f)), .sl 1 c (ints g.past)], iv (pastOn g (lastOn g m k))] (.own 1 true (ints (latL g (pastOn g (lastOn g m k))))) := by
      rw [← hN]; exact l15Latest_spec a b c g hg _ hPM
    simp [hkl, hLl, hk1]
    repeat (rw [exE_eq]; simp [hkl, hLl, hk1])
    refine ⟨_, hP, ?_⟩
    simp
    refine ⟨_, hG, ?_⟩
    simp [wrap_id ((k : Int) + 1) (by omega) (by omega)]
    repeat (refine And.intro (by first | omega | exact ⟨by kernel_rfl, by kernel_rfl⟩) ?_)
    refine Round.mk (k + 1) (weak_mk (fun t => if t = 100 then some 28 else some t) (by simp) ?_ rfl) hkl (by omega)
    simp [List.range_succ, orows]
  · obtain rfl : k = N := by omega
    simp [secL, hN]
end Go.AM
