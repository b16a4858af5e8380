/-
  WithComplements: both sides.
-/
import Derived.Test.YtnimmbjbinpajaaDoorFnMc
import Derived.Test.YtnimmbjbinpajaaDoorFnPc
set_option linter.unusedVariables false
set_option linter.unusedSimpArgs false
set_option maxRecDepth 100000
set_option maxHeartbeats 1600000
namespace Go.AM
open Go.Proofs
/-- The places that are met in some contact. -/
def needR (x : NetV) (m s : Int) : Nat → Int
  | 0 => s
  | a + 1 => ibits .or .i64 (needR x m s a) (contM x m a)
def needL (x : NetV) : Int → List Int → Int
  | s, [] => s
  | s, m :: l => needL x (needR x m s x.pre.length) l
theorem contM_ok {x : NetV} (hx : isNet x.p x.pre x.post x.s = true) {m : Int} (hm : M m) (hmf : m ≤ full x.p) {a : Nat} (ha : a < x.pre.length) : M (contM x m a) ∧ contM x m a ≤ full x.p := by
  have hl := isNet_len hx
  obtain ⟨n, hn⟩ := Int.eq_ofNat_of_zero_le hl.2.2.1
  have m1 := isNet_M hx _ (List.mem_append_left _ (nth_mem ha))
  have m2 := isNet_M hx _ (List.mem_append_right _ (nth_mem (show a < x.post.length by omega)))
  rw [hn] at hmf ⊢
  unfold contM
  split
  · refine ⟨M_and (M_andNot hm m1) m2, le_full (by omega) (M_and (M_andNot hm m1) m2) fun i hi => ?_⟩
    rw [tb_and (M_andNot hm m1) m2, tb_andNot hm m1, tb_of_le (by omega) hm.1 hmf hi]; rfl
  · exact ⟨M_zero, le_full (by omega) M_zero fun i _ => by simp⟩
theorem needR_ok {x : NetV} (hx : isNet x.p x.pre x.post x.s = true) {m s : Int} (hm : M m ∧ m ≤ full x.p) (hs : M s ∧ s ≤ full x.p) : ∀ a, a ≤ x.pre.length → M (needR x m s a) ∧ needR x m s a ≤ full x.p
  | 0, _ => hs
  | a + 1, ha => by
    obtain ⟨h1, h2⟩ := needR_ok hx hm hs a (by omega)
    obtain ⟨c1, c2⟩ := contM_ok hx hm.1 hm.2 (show a < x.pre.length by omega)
    have hl := isNet_len hx
    obtain ⟨n, hn⟩ := Int.eq_ofNat_of_zero_le hl.2.2.1
    rw [hn] at h2 c2 ⊢
    exact ⟨M_or h1 c1, or_le_full (by omega) h1 c1 h2 c2⟩
theorem needL_ok {x : NetV} (hx : isNet x.p x.pre x.post x.s = true) : ∀ {l : List Int} {s : Int}, (∀ y ∈ l, M y ∧ y ≤ full x.p) → M s ∧ s ≤ full x.p → M (needL x s l) ∧ needL x s l ≤ full x.p
  | [], s, _, hs => hs
  | m :: l, s, hl, hs => by
    rw [needL]
    exact needL_ok hx (fun y hy => hl y (by simp [hy])) (needR_ok hx (hl m (by simp)) hs _ (Nat.le_refl _))
theorem or_zero' {s : Int} (h : M s) : ibits .or .i64 s 0 = s := by
  apply tb_ext (M_or h M_zero) h
  intro i _
  rw [tb_or h M_zero]; simp
/-- A column of bits is laid over a list of masks. -/
def colN (f : Nat → Bool) (o : Int) (L : List Int) : Nat → List Int
  | 0 => L
  | a + 1 => if f a then (colN f o L a).set a (ibits .or .i64 (nth (colN f o L a) a) o) else colN f o L a
@[simp] theorem colN_length (f : Nat → Bool) (o : Int) (L : List Int) : ∀ a, (colN f o L a).length = L.length
  | 0 => rfl
  | a + 1 => by
    unfold colN; split
    · rw [List.length_set]; exact colN_length f o L a
    · exact colN_length f o L a
/-- A transition gives a place, and does not take it; takes it, and does not give it. -/
def givesB (x : NetV) (p a : Nat) : Bool := tb (nth x.post a) p && !tb (nth x.pre a) p
def takesB (x : NetV) (p a : Nat) : Bool := tb (nth x.pre a) p && !tb (nth x.post a) p
/-- One more complement. -/
def compl (x out : NetV) (p : Nat) : NetV := ⟨out.p + 1, colN (givesB x p) (pow1 out.p) out.pre x.pre.length, colN (takesB x p) (pow1 out.p) out.post x.pre.length, if tb x.s p then out.s else ibits .or .i64 out.s (pow1 out.p)⟩
def complL (x : NetV) : NetV → List Nat → NetV
  | out, [] => out
  | out, p :: l => complL x (compl x out p) l
def needV (x : NetV) : Int := needL x 0 (sortI (keys (reachV x)))
def placesL (x : NetV) : List Nat := (List.range x.p.toNat).filter fun p => tb (needV x) p
def withComplementsV (x : NetV) : NetV × Int :=
  if (markingsOfV x).2 = 0 then (if x.p + popc (needV x).toNat ≤ 12 then (complL x x (placesL x), 0) else (⟨0, [], [], 0⟩, 3)) else (⟨0, [], [], 0⟩, (markingsOfV x).2)
theorem complL_snoc (x : NetV) : ∀ (l : List Nat) (out : NetV) (p : Nat), complL x out (l ++ [p]) = compl x (complL x out l) p
  | [], _, _ => rfl
  | q :: l, out, p => by rw [List.cons_append, complL, complL, complL_snoc x l]
theorem complL_len (x : NetV) : ∀ (l : List Nat) (out : NetV), (complL x out l).pre.length = out.pre.length ∧ (complL x out l).post.length = out.post.length ∧ (complL x out l).p = out.p + l.length
  | [], out => ⟨rfl, rfl, by simp [complL]⟩
  | q :: l, out => by
    obtain ⟨h1, h2, h3⟩ := complL_len x l (compl x out q)
    refine ⟨by rw [complL, h1]; simp [compl], by rw [complL, h2]; simp [compl], ?_⟩
    rw [complL, h3]; simp [compl]; omega
theorem needV_ok {x : NetV} (h : (markingsOfV x).2 = 0) : M (needV x) ∧ needV x ≤ full x.p := by
  obtain ⟨h1, h2, h3⟩ := markingsOf_zero h
  have hl := isNet_len h1
  obtain ⟨n, hn⟩ := Int.eq_ofNat_of_zero_le hl.2.2.1
  refine needL_ok h1 (marks_ok h1) ⟨M_zero, ?_⟩
  rw [hn]; exact le_full (by omega) M_zero fun i _ => by simp
theorem placesL_pop {x : NetV} (h : (markingsOfV x).2 = 0) : popc (needV x).toNat = (placesL x).length ∧ nats (placesL x) = bitsOf (needV x) := by
  obtain ⟨h1, h2, h3⟩ := markingsOf_zero h
  obtain ⟨m1, m2⟩ := needV_ok h
  have hl := isNet_len h1
  obtain ⟨n, hn⟩ := Int.eq_ofNat_of_zero_le hl.2.2.1
  have hp : x.p.toNat = n := by rw [hn]; simp
  rw [hn] at m2
  have hb : ∀ i, n ≤ i → tb (needV x) i = false := fun i hi => tb_of_le (by omega) m1.1 m2 hi
  refine ⟨?_, ?_⟩
  · have := m1.1
    rw [full_eq (by omega)] at m2
    have h2 := Nat.two_pow_pos n
    unfold placesL
    rw [hp, popc_card n (needV x).toNat (by omega)]; rfl
  · rw [bits_eq (n := n) (by omega) hb]
    unfold placesL nats
    rw [hp]
theorem complL_take {x : NetV} {l : List Nat} {k : Nat} (hk : k < l.length) : complL x x (l.take (k + 1)) = compl x (complL x x (l.take k)) (natAt l k) := by
  rw [List.take_succ_eq_append_getElem hk, complL_snoc, natAt_at hk]
theorem contM_some {x : NetV} {m : Int} {a : Nat} (h : contM x m a ≠ 0) : contM x m a = ibits .and .i64 (ibits .andNot .i64 m (nth x.pre a)) (nth x.post a) := by
  unfold contM at h ⊢
  split
  · rfl
  · rename_i h2; rw [if_neg h2] at h; exact absurd rfl h
theorem colN_yes {f : Nat → Bool} {o : Int} {L : List Int} {a : Nat} (h : f a = true) : colN f o L (a + 1) = (colN f o L a).set a (ibits .or .i64 (nth (colN f o L a) a) o) := by rw [colN, if_pos h]
theorem colN_no {f : Nat → Bool} {o : Int} {L : List Int} {a : Nat} (h : f a = false) : colN f o L (a + 1) = colN f o L a := by rw [colN, h]; rfl
theorem WithComplements_spec (n1 n2 : Bool) (x : NetV) (hx : NetOk x) : ACalls1 Tryd.prog 23 [netSl n1 n2 x] (.tup [netOw false false (withComplementsV x).1, iv (withComplementsV x).2]) := by
  refine walk (fun t => t == 1 || t == 1059) mixed Go.Proofs.Tryd.func23 rfl rfl rfl (by kernel_rfl) rfl (by simp) (by kernel_rfl) ?_
  simp
  refine ⟨_, MarkingsOf_spec _ _ x hx, ?_⟩
  by_cases h : (markingsOfV x).2 = 0
  · obtain ⟨h1, h2, h3⟩ := markingsOf_zero h
    obtain ⟨v1, v2⟩ := needV_ok h
    obtain ⟨v3, v4⟩ := placesL_pop h
    have hn := isNet_len h1
    have hmk := marks_ok h1
    have hlen : (sortI (keys (reachV x))).length ≤ 256 := by simp; exact h2
    have hV : withComplementsV x = if x.p + popc (needV x).toNat ≤ 12 then (complL x x (placesL x), 0) else (⟨0, [], [], 0⟩, 3) := by unfold withComplementsV; rw [if_pos h]
    have hneed : needV x = needL x 0 (sortI (keys (reachV x))) := rfl
    rw [h3]
    generalize sortI (keys (reachV x)) = l at *
    simp
    refine awp_loop2 [1, 2, 26, 27] [2, 20000] (fun s : Nat × Int => [(28, iv s.1), (6, iv s.2)]) (fun _ => []) (fun s => s.1 ≤ l.length ∧ (M s.2 ∧ s.2 ≤ full x.p) ∧ needL x s.2 (l.drop s.1) = needV x) (fun s => l.length - s.1) (0, 0) (weak_mk some (by simp) (by simp) rfl) ⟨by simp, ⟨M_zero, by
      obtain ⟨n, hnn⟩ := Int.eq_ofNat_of_zero_le hn.2.2.1
      rw [hnn]; exact le_full (by omega) M_zero fun i _ => by simp⟩, by simp [hneed]⟩ ?_
    rintro ⟨k, s⟩ ⟨hk, hs, he⟩
    simp only at hk hs he
    by_cases hkl : k < l.length
    · have hm := hmk _ (nth_mem hkl)
      rw [drop_nth hkl, needL] at he
      have hnx := needR_ok h1 hm hs x.pre.length (Nat.le_refl _)
      have hro := fun a ha => needR_ok h1 hm hs a ha
      generalize hmm : nth l k = m at *
      simp [hkl, hmm, show k + 1 ≤ l.length from hkl]
      refine ⟨_, length_spec _ _ (by unfold Fits; omega), ?_⟩
      simp
      refine awp_loop2 [1, 2, 8, 26, 27, 28, 34] [2, 20000] (fun a : Nat => [(35, iv a), (6, iv (needR x m s a))]) (fun _ => []) (fun a => a ≤ x.pre.length) (fun a => x.pre.length - a) 0 (weak_mk some (by simp [needR]) (by simp) rfl) (by simp) ?_
      intro a ha
      by_cases hal : a < x.pre.length
      · have hst : needR x m s (a + 1) = ibits .or .i64 (needR x m s a) (contM x m a) := rfl
        simp [hal]
        refine ⟨_, hasContact_spec _ _ x m a hal (by omega), ?_⟩
        by_cases hc : contM x m a = 0
        · rw [hc, or_zero' (hro a ha).1] at hst
          simp [hc, wrap_id ((a : Int) + 1) (by omega) (by omega)]
          exact Round.mk (a + 1) (weak_mk some (by simp [hst]) (by simp) rfl) hal (by omega)
        · rw [contM_some hc] at hst
          simp [hc, hal, show a < x.post.length by omega, wrap_id ((a : Int) + 1) (by omega) (by omega)]
          repeat (rw [exE_eq]; simp [hc, hal, show a < x.post.length by omega, wrap_id ((a : Int) + 1) (by omega) (by omega)])
          exact Round.mk (a + 1) (weak_mk some (by simp [hst]) (by simp) rfl) hal (by omega)
      · obtain rfl : a = x.pre.length := by omega
        simp [wrap_id ((k : Int) + 1) (by omega) (by omega)]
        exact Round.mk (k + 1, needR x m s x.pre.length) (weak_mk some (by simp) (by simp) rfl) ⟨hkl, hnx, he⟩ (by simp only; omega)
    · obtain rfl : k = l.length := by omega
      rw [List.drop_length, needL] at he
      subst he
      clear hneed
      obtain ⟨N, hN⟩ := Int.eq_ofNat_of_zero_le hn.2.2.1
      have hMs : M x.s := ((bok_start h1).ms _ (List.mem_singleton.2 rfl)).1
      simp
      repeat (rw [exE_eq]; simp)
      refine ⟨_, Clone_spec _ _ hx.2.1.1, ?_⟩
      simp
      repeat (rw [exE_eq]; simp)
      refine ⟨_, Clone_spec _ _ hx.2.2.1.1, ?_⟩
      simp
      repeat (rw [exE_eq]; simp)
      repeat (refine And.intro (by first | omega | exact ⟨by kernel_rfl, by kernel_rfl⟩) ?_)
      refine ⟨_, members_spec _ v1, ?_⟩
      rw [← v4]
      have hPl : ∀ k, k < (placesL x).length → natAt (placesL x) k < N := fun k hk => by
        have h7 : natAt (placesL x) k ∈ (List.range x.p.toNat).filter fun p => tb (needV x) p := natAt_mem hk
        rw [List.mem_filter, List.mem_range] at h7
        have := h7.1
        omega
      have hPlen : (placesL x).length ≤ N := by
        unfold placesL
        have := List.length_filter_le (fun p => tb (needV x) p) (List.range x.p.toNat)
        rw [List.length_range] at this
        omega
      rw [v3] at hV
      generalize hP : placesL x = P at *
      simp
      refine awp_loop2 [1, 2, 10, 71, 72] [2, 71] (fun k : Nat => [(73, iv k)]) (fun k => [(10, .box [iv (complL x x (P.take k)).p, .ref 100, .ref 101, iv (complL x x (P.take k)).s]), (100, .own 1 false (ints (complL x x (P.take k)).pre)), (101, .own 1 false (ints (complL x x (P.take k)).post))]) (fun k => k ≤ P.length) (fun k => P.length - k) 0 (weak_mk (fun t => if t = 100 then some 63 else if t = 101 then some 66 else some t) (by simp) (by simp [complL]) rfl) (by simp) ?_
      intro k hk
      obtain ⟨g1, g2, g3⟩ := complL_len x (P.take k) x
      rw [List.length_take, Nat.min_eq_left hk] at g3
      by_cases hkP : k < P.length
      · have hst := complL_take (x := x) hkP
        have hnk := nats_nth hkP
        have hpk := hPl k hkP
        generalize natAt P k = p at *
        generalize complL x x (P.take k) = out at *
        obtain ⟨q, hq⟩ : ∃ q, q = N + k := ⟨_, rfl⟩
        have hop : out.p = (q : Int) := by rw [g3, hN, hq]; omega
        have hs' : (compl x out p).s = if tb x.s p then out.s else ibits .or .i64 out.s (pow1 out.p) := rfl
        have hp1 : (compl x out p).pre = colN (givesB x p) (pow1 out.p) out.pre x.pre.length := rfl
        have hp2 : (compl x out p).post = colN (takesB x p) (pow1 out.p) out.post x.pre.length := rfl
        have hp3 : (compl x out p).p = out.p + 1 := rfl
        rw [hop] at hs' hp1 hp2 hp3
        have hMt : ∀ a, a < x.pre.length → M (nth x.pre a) ∧ M (nth x.post a) := fun a ha => ⟨isNet_M h1 _ (List.mem_append_left _ (nth_mem ha)), isNet_M h1 _ (List.mem_append_right _ (nth_mem (by omega)))⟩
        have hlen1 : ∀ a, (colN (givesB x p) (pow1 (q : Int)) out.pre a).length = x.pre.length := fun a => by rw [colN_length, g1]
        have hlen2 : ∀ a, (colN (takesB x p) (pow1 (q : Int)) out.post a).length = x.pre.length := fun a => by rw [colN_length, g2]; omega
        generalize hC : compl x out p = cmp at *
        simp [hkP, hnk, hop, show k + 1 ≤ P.length from hkP]
        refine ⟨_, one_spec q (by omega), ?_⟩
        simp [wrap_id ((q : Int) + 1) (by omega) (by omega)]
        refine ⟨_, has_spec _ hMs p (by omega), ?_⟩
        cases htp : tb x.s p
        all_goals
          rw [htp] at hs'
          simp
          refine awp_loop2 [1, 2, 10, 12, 13, 71, 72, 73, 96] [2, 71] (fun a : Nat => [(97, iv a)]) (fun a => [(10, .box [iv ((q : Int) + 1), .ref 100, .ref 101, iv cmp.s]), (100, .own 1 false (ints (colN (givesB x p) (pow1 q) out.pre a))), (101, .own 1 false (ints (colN (takesB x p) (pow1 q) out.post a)))]) (fun a => a ≤ x.pre.length) (fun a => x.pre.length - a) 0 (weak_mk some (by simp) (by simp [hs', colN]) rfl) (by simp) ?_
          intro a ha
          by_cases hal : a < x.pre.length
          · have hap : a < x.post.length := by omega
            have l1 := hlen1 a
            have l2 := hlen2 a
            obtain ⟨m1, m2⟩ := hMt a hal
            simp [hal, hap]
            repeat (rw [exE_eq]; simp [hal, hap])
            refine ⟨_, has_spec _ m1 p (by omega), ?_⟩
            simp [hal, hap]
            repeat (rw [exE_eq]; simp [hal, hap])
            refine ⟨_, has_spec _ m2 p (by omega), ?_⟩
            cases b1 : tb (nth x.pre a) p
            · cases b2 : tb (nth x.post a) p
              · have y1 : givesB x p a = false := by simp [givesB, b1, b2]
                have y2 : takesB x p a = false := by simp [takesB, b1, b2]
                simp [wrap_id ((a : Int) + 1) (by omega) (by omega)]
                repeat (refine And.intro (by first | omega | exact ⟨by kernel_rfl, by kernel_rfl⟩) ?_)
                exact Round.mk (a + 1) (weak_mk some (by simp) (by simp [colN_no y1, colN_no y2]) rfl) hal (by omega)
              · have y1 : givesB x p a = true := by simp [givesB, b1, b2]
                have y2 : takesB x p a = false := by simp [takesB, b1, b2]
                simp [l1, hal, show a + 1 ≤ x.pre.length from hal, ints_put, wrap_id ((a : Int) + 1) (by omega) (by omega)]
                repeat (refine And.intro (by first | omega | exact ⟨by kernel_rfl, by kernel_rfl⟩) ?_)
                exact Round.mk (a + 1) (weak_mk some (by simp) (by simp [colN_yes y1, colN_no y2, ints_put, l1, hal]) rfl) hal (by omega)
            · cases b2 : tb (nth x.post a) p
              · have y1 : givesB x p a = false := by simp [givesB, b1, b2]
                have y2 : takesB x p a = true := by simp [takesB, b1, b2]
                simp [l2, hal, show a + 1 ≤ x.pre.length from hal, ints_put, wrap_id ((a : Int) + 1) (by omega) (by omega)]
                repeat (refine And.intro (by first | omega | exact ⟨by kernel_rfl, by kernel_rfl⟩) ?_)
                exact Round.mk (a + 1) (weak_mk some (by simp) (by simp [colN_no y1, colN_yes y2, ints_put, l2, hal]) rfl) hal (by omega)
              · have y1 : givesB x p a = false := by simp [givesB, b1, b2]
                have y2 : takesB x p a = false := by simp [takesB, b1, b2]
                simp [wrap_id ((a : Int) + 1) (by omega) (by omega)]
                repeat (refine And.intro (by first | omega | exact ⟨by kernel_rfl, by kernel_rfl⟩) ?_)
                exact Round.mk (a + 1) (weak_mk some (by simp) (by simp [colN_no y1, colN_no y2]) rfl) hal (by omega)
          · obtain rfl : a = x.pre.length := by omega
            simp [wrap_id ((k : Int) + 1) (by omega) (by omega)]
            exact Round.mk (k + 1) (weak_mk some (by simp) (by simp [hst, hp1, hp2, hp3]) rfl) hkP (by omega)
      · obtain rfl : k = P.length := by omega
        rw [List.take_length] at *
        obtain ⟨q, hq⟩ : ∃ q, q = N + P.length := ⟨_, rfl⟩
        have hop : (complL x x P).p = (q : Int) := by rw [g3, hN, hq]; omega
        generalize hO : complL x x P = out at *
        have hxp : x.p + P.length = (q : Int) := by rw [hN, hq]; omega
        rw [hxp] at hV
        by_cases hq12 : (q : Int) ≤ 12
        · rw [if_pos hq12] at hV
          simp [hop, hq12, hV, show ¬ (12 : Int) < (q : Int) by omega]
        · rw [if_neg hq12] at hV
          simp [hop, hq12, hV, show (12 : Int) < (q : Int) by omega]
  · have hV : withComplementsV x = (⟨0, [], [], 0⟩, (markingsOfV x).2) := by unfold withComplementsV; rw [if_neg h]
    simp [h, hV]
theorem l17Copy_spec (n1 n2 : Bool) (x : NetV) (hx : NetOk x) : ACalls1 Tryd.prog 80 [netSl n1 n2 x] (netOw true true x) := by
  refine walk (fun t => t == 1 || t == 1003) mixed Go.Proofs.Tryd.func80 rfl rfl rfl (by kernel_rfl) rfl (by simp) (by kernel_rfl) ?_
  simp
  repeat (rw [exE_eq]; simp)
  refine ⟨_, l01Own_spec _ _ hx.2.1.1, ?_⟩
  simp
  repeat (rw [exE_eq]; simp)
  refine ⟨_, l01Own_spec _ _ hx.2.2.1.1, ?_⟩
  simp
  repeat (rw [exE_eq]; simp)
  first | refine ⟨⟨by kernel_rfl, by kernel_rfl⟩, ?_⟩ | exact ⟨by kernel_rfl, by kernel_rfl⟩
theorem filter_succ_yes {P : Nat → Bool} {k : Nat} (h : P k = true) : (List.range (k + 1)).filter P = (List.range k).filter P ++ [k] := by
  rw [List.range_succ, List.filter_append]; simp [h]
theorem filter_succ_no {P : Nat → Bool} {k : Nat} (h : P k = false) : (List.range (k + 1)).filter P = (List.range k).filter P := by
  rw [List.range_succ, List.filter_append]; simp [h]
theorem specWithComplements_spec (n1 n2 : Bool) (x : NetV) (hx : NetOk x) : ACalls1 Tryd.prog 24 [netSl n1 n2 x] (.tup [netOw false false (withComplementsV x).1, iv (withComplementsV x).2]) := by
  refine walk (fun t => t == 1) mixed Go.Proofs.Tryd.func24 rfl rfl rfl (by kernel_rfl) rfl (by simp) (by kernel_rfl) ?_
  simp
  refine ⟨_, specMarkingsOf_spec _ _ x hx, ?_⟩
  by_cases h : (markingsOfV x).2 = 0
  · obtain ⟨h1, h2, h3⟩ := markingsOf_zero h
    obtain ⟨v1, v2⟩ := needV_ok h
    obtain ⟨v3, v4⟩ := placesL_pop h
    have hn := isNet_len h1
    have hmk := marks_ok h1
    have hlen : (sortI (keys (reachV x))).length ≤ 256 := by simp; exact h2
    have hV : withComplementsV x = if x.p + popc (needV x).toNat ≤ 12 then (complL x x (placesL x), 0) else (⟨0, [], [], 0⟩, 3) := by unfold withComplementsV; rw [if_pos h]
    have hneed : needV x = needL x 0 (sortI (keys (reachV x))) := rfl
    rw [h3]
    generalize sortI (keys (reachV x)) = l at *
    simp
    refine awp_loop2 [1, 2, 4] [2, 18000] (fun s : Nat × Int => [(7, iv s.1), (6, iv s.2)]) (fun _ => []) (fun s => s.1 ≤ l.length ∧ (M s.2 ∧ s.2 ≤ full x.p) ∧ needL x s.2 (l.drop s.1) = needV x) (fun s => l.length - s.1) (0, 0) (weak_mk some (by simp) (by simp) rfl) ⟨by simp, ⟨M_zero, by
      obtain ⟨n, hnn⟩ := Int.eq_ofNat_of_zero_le hn.2.2.1
      rw [hnn]; exact le_full (by omega) M_zero fun i _ => by simp⟩, by simp [hneed]⟩ ?_
    rintro ⟨k, s⟩ ⟨hk, hs, he⟩
    simp only at hk hs he
    by_cases hkl : k < l.length
    · have hm := hmk _ (nth_mem hkl)
      rw [drop_nth hkl, needL] at he
      have hnx := needR_ok h1 hm hs x.pre.length (Nat.le_refl _)
      generalize hmm : nth l k = m at *
      simp [hkl, show k + 1 ≤ l.length from hkl]
      refine awp_loop2 [1, 2, 4, 7] [2, 18000] (fun a : Nat => [(8, iv a), (6, iv (needR x m s a))]) (fun _ => []) (fun a => a ≤ x.pre.length) (fun a => x.pre.length - a) 0 (weak_mk some (by simp [needR]) (by simp) rfl) (by simp) ?_
      intro a ha
      simp
      refine ⟨_, l17Letters_spec _ _ x, ?_⟩
      by_cases hal : a < x.pre.length
      · have hst : needR x m s (a + 1) = ibits .or .i64 (needR x m s a) (contM x m a) := rfl
        simp [hal, hkl, hmm, show k + 1 ≤ l.length from hkl]
        repeat (rw [exE_eq]; simp [hal, hkl, hmm, show k + 1 ≤ l.length from hkl])
        refine ⟨_, l17Contact_spec _ _ x m a hal (by omega), ?_⟩
        simp [wrap_id ((a : Int) + 1) (by omega) (by omega)]
        repeat (refine And.intro (by first | omega | exact ⟨by kernel_rfl, by kernel_rfl⟩) ?_)
        exact Round.mk (a + 1) (weak_mk some (by simp [hst]) (by simp) rfl) hal (by omega)
      · obtain rfl : a = x.pre.length := by omega
        simp [wrap_id ((k : Int) + 1) (by omega) (by omega)]
        exact Round.mk (k + 1, needR x m s x.pre.length) (weak_mk some (by simp) (by simp) rfl) ⟨hkl, hnx, he⟩ (by simp only; omega)
    · obtain rfl : k = l.length := by omega
      rw [List.drop_length, needL] at he
      subst he
      clear hneed
      obtain ⟨N, hN⟩ := Int.eq_ofNat_of_zero_le hn.2.2.1
      have hMs : M x.s := ((bok_start h1).ms _ (List.mem_singleton.2 rfl)).1
      have hpl : ∀ p, p ≤ N → ((List.range p).filter fun p => tb (needV x) p).length ≤ p := fun p _ => by
        have := List.length_filter_le (fun p => tb (needV x) p) (List.range p)
        rwa [List.length_range] at this
      have hPN : placesL x = (List.range N).filter fun p => tb (needV x) p := by unfold placesL; rw [hN]; simp
      rw [v3] at hV
      have hle12 : (placesL x).length ≤ N := by rw [hPN]; exact hpl N (Nat.le_refl _)
      have hmono : ∀ p, p ≤ N → ((List.range p).filter fun p => tb (needV x) p).length ≤ (placesL x).length := fun p hp => by
        rw [hPN]
        obtain ⟨d, rfl⟩ : ∃ d, N = p + d := ⟨N - p, by omega⟩
        rw [List.range_add, List.filter_append, List.length_append]; omega
      simp
      repeat (rw [exE_eq]; simp)
      refine ⟨_, l01Bits_spec _ v1, ?_⟩
      rw [v3]
      simp
      rw [wrap_id _ (by omega) (by omega)]
      by_cases hbig : x.p + (placesL x).length ≤ 12
      · rw [if_pos hbig] at hV
        simp [show ¬ (12 : Int) < x.p + (placesL x).length by omega, hbig]
        repeat (rw [exE_eq]; simp [show ¬ (12 : Int) < x.p + (placesL x).length by omega, hbig])
        refine ⟨_, l17Copy_spec _ _ x hx, ?_⟩
        simp
        refine awp_loop2 [1, 2, 6, 9] [2] (fun p : Nat => [(10, iv p)]) (fun p => [(9, .box [iv (complL x x ((List.range p).filter fun p => tb (needV x) p)).p, .ref 100, .ref 101, iv (complL x x ((List.range p).filter fun p => tb (needV x) p)).s]), (100, .own 1 true (ints (complL x x ((List.range p).filter fun p => tb (needV x) p)).pre)), (101, .own 1 true (ints (complL x x ((List.range p).filter fun p => tb (needV x) p)).post))]) (fun p => p ≤ N) (fun p => N - p) 0 (weak_mk (fun t => if t = 100 then some 54001 else if t = 101 then some 54002 else some t) (by simp) (by simp [complL]) rfl) (by simp) ?_
        intro p hp
        obtain ⟨g1, g2, g3⟩ := complL_len x ((List.range p).filter fun p => tb (needV x) p) x
        have hc := hmono p hp
        by_cases hpN : p < N
        · have fy := filter_succ_yes (P := fun p => tb (needV x) p) (k := p)
          have fn := filter_succ_no (P := fun p => tb (needV x) p) (k := p)
          generalize (List.range p).filter (fun p => tb (needV x) p) = L at *
          have hsn := complL_snoc x L x p
          simp [hN, hpN]
          refine ⟨_, l01Bit_spec _ v1 p (by omega), ?_⟩
          cases hb : tb (needV x) p
          · have e := fn hb
            simp [wrap_id ((p : Int) + 1) (by omega) (by omega)]
            exact Round.mk (p + 1) (weak_mk some (by simp) (by simp [e]) rfl) hpN (by omega)
          · have e := fy hb
            rw [← e] at hsn
            generalize complL x x L = out at *
            obtain ⟨q, hq⟩ : ∃ q, q = N + L.length := ⟨_, rfl⟩
            have hop : out.p = (q : Int) := by rw [g3, hN, hq]; omega
            have hs' : (compl x out p).s = if tb x.s p then out.s else ibits .or .i64 out.s (pow1 out.p) := rfl
            have hp1 : (compl x out p).pre = colN (givesB x p) (pow1 out.p) out.pre x.pre.length := rfl
            have hp2 : (compl x out p).post = colN (takesB x p) (pow1 out.p) out.post x.pre.length := rfl
            have hp3 : (compl x out p).p = out.p + 1 := rfl
            rw [hop] at hs' hp1 hp2 hp3
            have hMt : ∀ a, a < x.pre.length → M (nth x.pre a) ∧ M (nth x.post a) := fun a ha => ⟨isNet_M h1 _ (List.mem_append_left _ (nth_mem ha)), isNet_M h1 _ (List.mem_append_right _ (nth_mem (by omega)))⟩
            have hlen1 : ∀ a, (colN (givesB x p) (pow1 (q : Int)) out.pre a).length = x.pre.length := fun a => by rw [colN_length, g1]
            have hlen2 : ∀ a, (colN (takesB x p) (pow1 (q : Int)) out.post a).length = x.pre.length := fun a => by rw [colN_length, g2]; omega
            generalize hC : compl x out p = cmp at *
            simp [hop]
            refine ⟨_, l01One_spec q (by unfold I64; omega), ?_⟩
            simp
            refine awp_loop2 [1, 2, 6, 9, 10, 11] [2] (fun a : Nat => [(12, iv a)]) (fun a => [(9, .box [iv (q : Int), .ref 100, .ref 101, iv out.s]), (100, .own 1 true (ints (colN (givesB x p) (pow1 q) out.pre a))), (101, .own 1 true (ints (colN (takesB x p) (pow1 q) out.post a)))]) (fun a => a ≤ x.pre.length) (fun a => x.pre.length - a) 0 (weak_mk some (by simp) (by simp [colN]) rfl) (by simp) ?_
            intro a ha
            simp
            refine ⟨_, l17Letters_spec _ _ ⟨(N : Int), x.pre, x.post, x.s⟩, ?_⟩
            by_cases hal : a < x.pre.length
            · have hap : a < x.post.length := by omega
              have l1 := hlen1 a
              have l2 := hlen2 a
              obtain ⟨m1, m2⟩ := hMt a hal
              simp [hal, hap]
              repeat (rw [exE_eq]; simp [hal, hap])
              refine ⟨_, l01Bit_spec _ m1 p (by omega), ?_⟩
              simp [hal, hap]
              repeat (rw [exE_eq]; simp [hal, hap])
              refine ⟨_, l01Bit_spec _ m2 p (by omega), ?_⟩
              cases b1 : tb (nth x.pre a) p
              · cases b2 : tb (nth x.post a) p
                · have y1 : givesB x p a = false := by simp [givesB, b1, b2]
                  have y2 : takesB x p a = false := by simp [takesB, b1, b2]
                  simp [wrap_id ((a : Int) + 1) (by omega) (by omega)]
                  repeat (refine And.intro (by first | omega | exact ⟨by kernel_rfl, by kernel_rfl⟩) ?_)
                  exact Round.mk (a + 1) (weak_mk some (by simp) (by simp [colN_no y1, colN_no y2]) rfl) hal (by omega)
                · have y1 : givesB x p a = true := by simp [givesB, b1, b2]
                  have y2 : takesB x p a = false := by simp [takesB, b1, b2]
                  simp [l1, hal, show a + 1 ≤ x.pre.length from hal, ints_put, wrap_id ((a : Int) + 1) (by omega) (by omega)]
                  repeat (refine And.intro (by first | omega | exact ⟨by kernel_rfl, by kernel_rfl⟩) ?_)
                  repeat (rw [exE_eq]; simp [l1, hal, show a + 1 ≤ x.pre.length from hal, ints_put, wrap_id ((a : Int) + 1) (by omega) (by omega)])
                  repeat (refine And.intro (by first | omega | exact ⟨by kernel_rfl, by kernel_rfl⟩) ?_)
                  exact Round.mk (a + 1) (weak_mk some (by simp) (by simp [colN_yes y1, colN_no y2, ints_put, l1, hal]) rfl) hal (by omega)
              · cases b2 : tb (nth x.post a) p
                · have y1 : givesB x p a = false := by simp [givesB, b1, b2]
                  have y2 : takesB x p a = true := by simp [takesB, b1, b2]
                  simp [l2, hal, show a + 1 ≤ x.pre.length from hal, ints_put, wrap_id ((a : Int) + 1) (by omega) (by omega)]
                  repeat (refine And.intro (by first | omega | exact ⟨by kernel_rfl, by kernel_rfl⟩) ?_)
                  repeat (rw [exE_eq]; simp [l2, hal, show a + 1 ≤ x.pre.length from hal, ints_put, wrap_id ((a : Int) + 1) (by omega) (by omega)])
                  repeat (refine And.intro (by first | omega | exact ⟨by kernel_rfl, by kernel_rfl⟩) ?_)
                  exact Round.mk (a + 1) (weak_mk some (by simp) (by simp [colN_no y1, colN_yes y2, ints_put, l2, hal]) rfl) hal (by omega)
                · have y1 : givesB x p a = false := by simp [givesB, b1, b2]
                  have y2 : takesB x p a = false := by simp [takesB, b1, b2]
                  simp [wrap_id ((a : Int) + 1) (by omega) (by omega)]
                  repeat (refine And.intro (by first | omega | exact ⟨by kernel_rfl, by kernel_rfl⟩) ?_)
                  exact Round.mk (a + 1) (weak_mk some (by simp) (by simp [colN_no y1, colN_no y2]) rfl) hal (by omega)
            · obtain rfl : a = x.pre.length := by omega
              simp
              refine ⟨_, l01Bit_spec _ hMs p (by omega), ?_⟩
              cases htp : tb x.s p
              · rw [htp] at hs'
                simp [wrap_id ((p : Int) + 1) (by omega) (by omega), wrap_id ((q : Int) + 1) (by omega) (by omega)]
                exact Round.mk (p + 1) (weak_mk some (by simp) (by simp [hsn, hp1, hp2, hp3, hs']) rfl) hpN (by omega)
              · rw [htp] at hs'
                simp [wrap_id ((p : Int) + 1) (by omega) (by omega), wrap_id ((q : Int) + 1) (by omega) (by omega)]
                exact Round.mk (p + 1) (weak_mk some (by simp) (by simp [hsn, hp1, hp2, hp3, hs']) rfl) hpN (by omega)
        · obtain rfl : p = N := by omega
          rw [← hPN]
          simp [hN, hV]
      · rw [if_neg hbig] at hV
        simp [show (12 : Int) < x.p + (placesL x).length by omega, hbig, hV]
  · have hV : withComplementsV x = (⟨0, [], [], 0⟩, (markingsOfV x).2) := by unfold withComplementsV; rw [if_neg h]
    simp [h, hV]
theorem set_i64 {l : List Int} {a : Nat} {v : Int} (h : ∀ y ∈ l, I64 y) (hv : I64 v) : ∀ y ∈ l.set a v, I64 y := fun y hy => by
  rcases List.mem_or_eq_of_mem_set hy with h1 | h1
  · exact h y h1
  · rw [h1]; exact hv
theorem wrap_i64r (n : Int) : I64 (IntKind.i64.wrap n) := by rw [IntKind.wrap_i64]; unfold I64; omega
theorem ibits_i64 (a b : Int) : I64 (ibits .or .i64 a b) := wrap_i64r _
theorem colN_i64 {f : Nat → Bool} {o : Int} {L : List Int} (h : ∀ y ∈ L, I64 y) : ∀ a, ∀ y ∈ colN f o L a, I64 y
  | 0 => h
  | a + 1 => by
    unfold colN; split
    · exact set_i64 (colN_i64 h a) (ibits_i64 _ _)
    · exact colN_i64 h a
theorem complL_i64 {x : NetV} : ∀ (l : List Nat) (out : NetV), ((∀ y ∈ out.pre, I64 y) ∧ (∀ y ∈ out.post, I64 y) ∧ I64 out.s) → (∀ y ∈ (complL x out l).pre, I64 y) ∧ (∀ y ∈ (complL x out l).post, I64 y) ∧ I64 (complL x out l).s
  | [], out, h => h
  | p :: l, out, h => complL_i64 l _ ⟨colN_i64 h.1 _, colN_i64 h.2.1 _, by
    unfold compl; simp only; split
    · exact h.2.2
    · exact ibits_i64 _ _⟩
theorem WithComplements_fits (x : NetV) (hx : NetOk x) : NetOk (withComplementsV x).1 := by
  unfold withComplementsV
  by_cases h : (markingsOfV x).2 = 0
  · rw [if_pos h]
    by_cases h2 : x.p + popc (needV x).toNat ≤ 12
    · rw [if_pos h2]
      obtain ⟨g1, g2, g3⟩ := complL_len x (placesL x) x
      have hi := complL_i64 (x := x) (placesL x) x ⟨hx.2.1.2, hx.2.2.1.2, hx.2.2.2⟩
      have hp := placesL_pop h
      obtain ⟨h1, _, _⟩ := markingsOf_zero h
      have hn := isNet_len h1
      refine ⟨?_, ⟨?_, hi.1⟩, ⟨?_, hi.2.1⟩, hi.2.2⟩
      · show I64 (complL x x (placesL x)).p
        rw [g3]; unfold I64; omega
      · show (complL x x (placesL x)).pre.length < 1099511627776
        rw [g1]; omega
      · show (complL x x (placesL x)).post.length < 1099511627776
        rw [g2]; omega
    · rw [if_neg h2]; simp [NetOk, ListOk, Fits, I64]
  · rw [if_neg h]; simp [NetOk, ListOk, Fits, I64]
end Go.AM
