/-
  Machines: classes of states, by keys that are texts.
-/
import Derived.Test.YtnimmbjbinpajaaDoorFnNc
import Derived.Test.YtnimmbjbinpajaaDoorFnMgI
set_option linter.unusedVariables false
set_option linter.unusedSimpArgs false
set_option linter.unusedSectionVars false
set_option maxRecDepth 100000
set_option maxHeartbeats 1600000
namespace Go.AM
open Go.Proofs
/-- A number as two bytes. -/
def kb (x : Int) : List UInt8 := [u8 (x.fdiv 256), u8 x]
def bkey (K : List Int) : List UInt8 := K.flatMap kb
theorem u8_eq {a b : Int} (h : u8 a = u8 b) : a % 256 = b % 256 := by
  have h1 := u8_toNat a
  have h2 := u8_toNat b
  rw [h] at h1
  rw [wrap_u8] at h1 h2
  omega
theorem kb_inj {a b : Int} (ha : -1 ≤ a ∧ a ≤ 65534) (hb : -1 ≤ b ∧ b ≤ 65534) (h : kb a = kb b) : a = b := by
  unfold kb at h
  simp only [List.cons.injEq, and_true] at h
  have h1 := u8_eq h.1
  have h2 := u8_eq h.2
  rw [Int.fdiv_eq_ediv_of_nonneg _ (by omega), Int.fdiv_eq_ediv_of_nonneg _ (by omega)] at h1
  omega
theorem bkey_inj : ∀ {K K' : List Int}, (∀ x ∈ K, -1 ≤ x ∧ x ≤ 65534) → (∀ x ∈ K', -1 ≤ x ∧ x ≤ 65534) → K.length = K'.length → bkey K = bkey K' → K = K'
  | [], [], _, _, _, _ => rfl
  | [], _ :: _, _, _, h, _ => by simp at h
  | _ :: _, [], _, _, h, _ => by simp at h
  | a :: K, b :: K', h1, h2, hl, h => by
    have e : kb a ++ bkey K = kb b ++ bkey K' := h
    have h3 := List.append_inj e (by simp [kb])
    rw [kb_inj (h1 a (by simp)) (h2 b (by simp)) h3.1, bkey_inj (fun x hx => h1 x (by simp [hx])) (fun x hx => h2 x (by simp [hx])) (by simpa using hl) h3.2]
theorem bkey_snoc (K : List Int) (x : Int) : bkey (K ++ [x]) = bkey K ++ kb x := by simp [bkey]
theorem u8_and (c : Int) (h0 : 0 ≤ c) (h1 : c ≤ 65535) : u8 (ibits .and .i64 c 255) = u8 c := by
  obtain ⟨n, rfl⟩ := Int.eq_ofNat_of_zero_le h0
  have e : ibits .and .i64 (n : Int) 255 = ((n % 256 : Nat) : Int) := by
    unfold ibits
    have h3 : ((BitVec.ofInt 64 (n : Int)) &&& (BitVec.ofInt 64 255)).toNat = n % 256 := by
      rw [BitVec.toNat_and]
      have e1 : (BitVec.ofInt 64 (n : Int)).toNat = n := by
        rw [BitVec.toNat_ofInt]; omega
      have e2 : (BitVec.ofInt 64 255).toNat = 2 ^ 8 - 1 := by decide
      rw [e1, e2, Nat.and_two_pow_sub_one_eq_mod]
    show IntKind.i64.wrap _ = _
    rw [show (BitVec.ofInt IntKind.i64.bits (n : Int) &&& BitVec.ofInt IntKind.i64.bits 255).toNat = n % 256 from h3]
    exact wrap_id _ (by omega) (by omega)
  rw [e]
  unfold u8
  rw [wrap_u8, wrap_u8]
  congr 2
  omega
def keyIn (K : List Int) : Prop := ∀ x ∈ K, -1 ≤ x ∧ x ≤ 65534
structure NmOk (c : List Int) (m : MchV) (names : List (List Int)) (mp : List (List UInt8 × Value)) : Prop where
  len : mp.length = names.length
  look : ∀ s, s < m.next.length → 0 ≤ nth c s → mp.lookup (bkey (keyV c m s)) = if keyV c m s ∈ names then some (.int .i64 (ixOf names (keyV c m s) : Nat)) else none
theorem keyV_len (c : List Int) (m : MchV) (s : Nat) : (keyV c m s).length = m.letters + 1 := by simp [keyV]
theorem keyV_in {c : List Int} {m : MchV} (hm : MchOk m) (hlo : ∀ s, s < m.next.length → -1 ≤ nth c s ∧ nth c s ≤ 65534) {s : Nat} (hs : s < m.next.length) : keyIn (keyV c m s) := by
  intro x hx
  unfold keyV at hx
  rcases List.mem_cons.1 hx with rfl | hx
  · exact hlo s hs
  · obtain ⟨a, ha, rfl⟩ := List.mem_map.1 hx
    have hr := hm.rr s hs a (List.mem_range.1 ha)
    unfold clX
    split
    · omega
    · exact hlo _ (by omega)
theorem nm_put {c : List Int} {m : MchV} (hm : MchOk m) (hlo : ∀ s, s < m.next.length → -1 ≤ nth c s ∧ nth c s ≤ 65534) {names : List (List Int)} {mp : List (List UInt8 × Value)} (h : NmOk c m names mp) {s : Nat} (hs : s < m.next.length) (h0 : 0 ≤ nth c s) (hk : keyV c m s ∉ names) :
    NmOk c m (names ++ [keyV c m s]) (putS (bkey (keyV c m s)) (.int .i64 (names.length : Nat)) mp) := by
  have hl := h.look s hs h0
  rw [if_neg hk] at hl
  refine ⟨by rw [putS_len hl, h.len]; simp, fun t ht h1 => ?_⟩
  rw [lookup_putS]
  by_cases e : keyV c m t = keyV c m s
  · rw [if_pos (by rw [e]), if_pos (by rw [e]; simp), e]
    congr 3
    rw [show ixOf (names ++ [keyV c m s]) (keyV c m s) = names.length from ?_]
    have : ∀ (l : List (List Int)) x, x ∉ l → ixOf (l ++ [x]) x = l.length := by
      intro l x
      induction l with
      | nil => intro _; simp [ixOf]
      | cons y l ih =>
        intro hx
        simp only [List.cons_append, ixOf]
        rw [if_neg (fun e => hx (by simp [e])), ih fun h => hx (by simp [h])]; rfl
    exact this _ _ hk
  · rw [if_neg (fun e2 => e (bkey_inj (keyV_in hm hlo ht) (keyV_in hm hlo hs) (by rw [keyV_len, keyV_len]) e2)), h.look t ht h1]
    by_cases e3 : keyV c m t ∈ names
    · rw [if_pos e3, if_pos (by simp [e3]), ixOf_snoc e3]
    · rw [if_neg e3, if_neg (by simp [e3, e])]
theorem nm_nil (c : List Int) (m : MchV) : NmOk c m [] [] := ⟨rfl, fun s hs h => by simp⟩
theorem nth_setN {l : List Int} {k i : Nat} {x : Int} (h : k < l.length) : nth (l.set k x) i = if i = k then x else nth l i := by
  unfold nth
  simp only [List.getD_eq_getElem?_getD, List.getElem?_set]
  by_cases e : k = i
  · subst e; simp [h]
  · rw [if_neg e, if_neg fun e2 => e e2.symm]
theorem cls_next {m : MchV} {u : List Bool} {C : List Int} {k : Nat} (hk : k < C.length) (h : ∀ i, nth C i = if i < k then cls0 m (bAt u) i else 0) {C' : List Int} (hC : C' = C.set k (cls0 m (bAt u) k) ∨ (C' = C ∧ cls0 m (bAt u) k = 0)) : ∀ i, nth C' i = if i < k + 1 then cls0 m (bAt u) i else 0 := by
  intro i
  rcases hC with rfl | ⟨rfl, h0⟩
  · rw [nth_setN hk, h i]
    by_cases e : i = k
    · subst e; rw [if_pos rfl, if_pos (by omega)]
    · rw [if_neg e]
      by_cases e2 : i < k
      · rw [if_pos e2, if_pos (by omega)]
      · rw [if_neg e2, if_neg (by omega)]
  · rw [h i]
    by_cases e : i = k
    · subst e; rw [if_neg (by omega), if_pos (by omega), h0]
    · by_cases e2 : i < k
      · rw [if_pos e2, if_pos (by omega)]
      · rw [if_neg e2, if_neg (by omega)]
theorem set_key {p : List Int} {n k : Nat} {x : Int} (hp : p.length = k) (hk : k < n) : (p ++ List.replicate (n - k) 0).set k x = (p ++ [x]) ++ List.replicate (n - (k + 1)) 0 := by
  have e : n - k = (n - (k + 1)) + 1 := by omega
  rw [List.set_append_right _ _ (by omega), hp, Nat.sub_self, e, List.replicate_succ, List.set_cons_zero, List.append_assoc]; rfl
theorem finV_bAt (m : MchV) (k : Nat) : finV m k = bAt m.fin k := by
  unfold finV bAt; rw [if_neg (by omega), Int.toNat_natCast]
theorem classes_spec (a b c d : Bool) (m : MchV) (hm : MchOk m) (hn : m.next.length ≤ 65535) (h8 : m.letters ≤ 8) (start : Nat) (hs : start < m.next.length) (u : List Bool) (R : Nat → Prop) (hu : UsefulOk m start u R) (hst : bAt u start = true) :
    ACalls Tryd.prog 114 [machA a b c m start, .sl 1 d (bls u)] (fun xs r => xs = [machA a b c m start, .sl 1 d (bls u)] ∧ ∃ cl, cl.length = m.next.length ∧ ClsOk cl m R ∧ (∀ s, s < m.next.length → -1 ≤ nth cl s ∧ nth cl s < m.next.length) ∧ r = .own 1 true (ints cl)) := by
  have hfl := hm.f
  have hul := hu.len
  have hlv := useful_live hu
  refine walkR (fun t => t == 2 || t == 1045 || t == 1062) mixed Go.Proofs.Tryd.func114 rfl rfl rfl (by kernel_rfl) (by simp) (by simp) (by simp) (by kernel_rfl) ?_
  simp
  refine ⟨by omega, by omega, ?_⟩
  refine awp_loop2 [1, 2, 5, 22] [] (fun k : Nat × List Int => [(23, iv k.1)]) (fun k => [(20, .own 1 true (ints k.2))]) (fun k => k.1 ≤ m.next.length ∧ k.2.length = m.next.length ∧ ∀ i, nth k.2 i = if i < k.1 then cls0 m (bAt u) i else 0) (fun k => m.next.length - k.1) (0, List.replicate m.next.length 0) (weak_mk some (by simp) (by simp) rfl) ⟨by simp, by simp, fun i => by
    by_cases h : i < m.next.length
    · simp [nth, h]
    · simp [nth, h]⟩ ?_
  rintro ⟨k, C⟩ ⟨hk, hC, hCi⟩
  simp only at hk hC hCi
  by_cases hlt : k < m.next.length
  · have hfv := finV_bAt m k
    have hkC : k < C.length := by omega
    cases hb : bAt u k
    · simp [hlt, hfl, hul, hC, hb, show k + 1 ≤ m.next.length from hlt]
      rw [ints_put _ _ _ hkC]
      simp only [wrap_id ((k : Int) + 1) (by omega) (by omega)]
      exact Round.mk (k + 1, C.set k (-1)) (weak_mk some (by simp) (by simp) rfl) ⟨hlt, by simpa using hC, cls_next hkC hCi (.inl (by simp [cls0, hb]))⟩ (by simp only; omega)
    · cases hf : bAt m.fin k
      · simp [hlt, hfl, hul, hC, hb, hf, show k + 1 ≤ m.next.length from hlt]
        try simp only [wrap_id ((k : Int) + 1) (by omega) (by omega)]
        exact Round.mk (k + 1, C) (weak_mk some (by simp) (by simp) rfl) ⟨hlt, hC, cls_next hkC hCi (.inr ⟨rfl, by simp [cls0, hb, hfv, hf]⟩)⟩ (by simp only; omega)
      · simp [hlt, hfl, hul, hC, hb, hf, show k + 1 ≤ m.next.length from hlt]
        rw [ints_put _ _ _ hkC]
        simp only [wrap_id ((k : Int) + 1) (by omega) (by omega)]
        exact Round.mk (k + 1, C.set k 1) (weak_mk some (by simp) (by simp) rfl) ⟨hlt, by simpa using hC, cls_next hkC hCi (.inl (by simp [cls0, hb, hfv, hf]))⟩ (by simp only; omega)
  · obtain rfl : k = m.next.length := by omega
    simp
    refine awp_loop2 [2] [] (fun s : List Int × Nat => [(5, .ref 200), (7, iv s.2)]) (fun s => [(200, .own 1 true (ints s.1))]) (fun s => RefOk s.1 m (fun s => bAt u s = true) ∧ (∀ i, i < m.next.length → nth s.1 i ≤ 65534) ∧ s.2 ≤ m.next.length ∧ (s.2 = 0 ∨ OntoC s.1 m.next.length s.2)) (fun s => m.next.length - s.2) (C, 0) (weak_mk (fun t => if t = 200 then some 20 else some t) (by simp) (by simp) rfl) ⟨ref_start hC (fun s hs => by rw [hCi s, if_pos hs]), fun i hi => by
      rw [hCi i, if_pos hi]; unfold cls0; split
      · split <;> omega
      · omega, by simp, .inl rfl⟩ ?_
    rintro ⟨cl, many⟩ ⟨hR, hhi, hmn, hon⟩
    simp only at hR hhi hmn hon
    have hcl := hR.len
    have hlo : ∀ s, s < m.next.length → -1 ≤ nth cl s ∧ nth cl s ≤ 65534 := fun s hs => ⟨hR.lo s hs, hhi s hs⟩
    simp [hcl]
    repeat (refine And.intro (by first | omega | exact ⟨by kernel_rfl, by kernel_rfl⟩) ?_)
    refine awp_loop2 [2, 5, 7, 8, 9, 50] [200] (fun s : Nat × List (List UInt8 × Value) => [(51, iv s.1)]) (fun s => [(48, .own 1 true (ints ((namesV cl m s.1).2 ++ List.replicate (m.next.length - s.1) 0))), (45, .mp (mS s.2))]) (fun s => s.1 ≤ m.next.length ∧ NmOk cl m (namesV cl m s.1).1 s.2) (fun s => m.next.length - s.1) (0, []) (weak_mk some (by simp) (by simp [namesV, mS]) rfl) ⟨by simp, nm_nil _ _⟩ ?_
    rintro ⟨k, mp⟩ ⟨hk, hmp⟩
    simp only at hk hmp
    have hN := namesV_ok cl m k
    have hNs := namesV_succ cl m k
    unfold nStep at hNs
    have hNl := hN.len
    have hNle := hN.le
    have hKin := fun h => keyV_in (s := k) hm hlo h
    by_cases hlt : k < m.next.length
    · have hck := hlo k hlt
      have hset := fun x => set_key (p := (namesV cl m k).2) (n := m.next.length) (x := x) hNl hlt
      have hlk := hmp.look k hlt
      have hput := nm_put hm hlo hmp hlt
      have hmpl := hmp.len
      generalize namesV cl m k = p at *
      have hkP : k < (p.2 ++ List.replicate (m.next.length - k) 0).length := by simp; omega
      by_cases hneg : nth cl k < 0
      · rw [if_pos hneg] at hNs
        simp [hlt, hcl, hneg, show k + 1 ≤ m.next.length from hlt, hNl, show k + (m.next.length - k) = m.next.length by omega]
        rw [ints_put _ _ _ hkP, hset]
        simp only [wrap_id ((k : Int) + 1) (by omega) (by omega)]
        exact Round.mk (k + 1, mp) (weak_mk some (by simp) (by simp [hNs]) rfl) ⟨hlt, by rw [hNs]; exact hmp⟩ (by simp only; omega)
      · rw [if_neg hneg] at hNs
        have hlk := hlk (by omega)
        simp [hlt, hcl, hneg, show k + 1 ≤ m.next.length from hlt]
        repeat (rw [exE_eq]; simp [hlt, hcl, hneg, show k + 1 ≤ m.next.length from hlt])
        refine ⟨_, wordKey_spec true [(nth cl k).fdiv 256, ibits .and .i64 (nth cl k) 255] (by simp), ?_⟩
        simp
        rw [exE_eq]
        simp
        first | refine ⟨⟨by kernel_rfl, by kernel_rfl⟩, ?_⟩ | exact ⟨by kernel_rfl, by kernel_rfl⟩
        have he : [u8 ((nth cl k).fdiv 256), u8 (ibits BinOp.and IntKind.i64 (nth cl k) 255)] = bkey (nth cl k :: (List.range 0).map fun a => clX cl (goV m k a)) := by
          rw [u8_and _ (by omega) (by omega)]; simp [bkey, kb]
        have hrl := hm.rl k hlt
        rw [he]
        refine awp_loop2 [2, 5, 7, 8, 9, 10, 50, 51, 76] [200, 48, 45] (fun j : Nat => [(77, iv j), (11, .ref 201)]) (fun j => [(201, .own 1 true (byU (bkey (nth cl k :: (List.range j).map fun a => clX cl (goV m k a)))))]) (fun j => j ≤ m.letters) (fun j => m.letters - j) 0 (weak_mk (fun t => if t = 201 then some 74 else some t) (by simp) (by simp) rfl) (by simp) ?_
        intro j hj
        have hbl : (bkey (nth cl k :: (List.range j).map fun a => clX cl (goV m k a))).length = 2 * j + 2 := by
          have : ∀ K, (bkey K).length = 2 * K.length := by
            intro K
            induction K with
            | nil => rfl
            | cons x K ih =>
              show (kb x ++ bkey K).length = _
              simp [kb, ih]; omega
          rw [this]; simp; omega
        by_cases hjl : j < m.letters
        · have hgo := hm.rr k hlt j hjl
          have hgv : nth (nthR m.next k) j = goV m k j := rfl
          have hks : bkey (nth cl k :: (List.range (j + 1)).map fun a => clX cl (goV m k a)) = bkey (nth cl k :: (List.range j).map fun a => clX cl (goV m k a)) ++ [u8 ((clX cl (goV m k j)).fdiv 256), u8 (clX cl (goV m k j))] := by
            rw [List.range_succ, List.map_append, ← List.cons_append, List.map_cons, List.map_nil, bkey_snoc]; rfl
          generalize bkey (nth cl k :: (List.range j).map fun a => clX cl (goV m k a)) = K at *
          generalize hge : goV m k j = g at *
          by_cases hg0 : g < 0
          · have hcx : clX cl g = -1 := by unfold clX; rw [if_pos hg0]
            rw [hcx, show (-1 : Int).fdiv 256 = -1 by decide] at hks
            simp [hjl, hlt, hrl, hgv, hg0, show k + 1 ≤ m.next.length from hlt, hbl]
            repeat (refine And.intro (by omega) ?_)
            simp only [wrap_id ((j : Int) + 1) (by omega) (by omega)]
            exact Round.mk (j + 1) (weak_mk (fun t => if t = 201 then some 101 else some t) (by simp) (by simp [hks]) rfl) hjl (by omega)
          · obtain ⟨gn, rfl⟩ := Int.eq_ofNat_of_zero_le (show 0 ≤ g by omega)
            have hcx : clX cl gn = nth cl gn := by unfold clX; rw [if_neg hg0, Int.toNat_natCast]
            rw [hcx] at hks
            have hgn : gn < m.next.length := by omega
            simp [hjl, hlt, hrl, hgv, hg0, hcl, hgn, show k + 1 ≤ m.next.length from hlt, show gn + 1 ≤ m.next.length from hgn, hbl]
            refine ⟨by omega, by omega, ?_⟩
            simp only [wrap_id ((j : Int) + 1) (by omega) (by omega)]
            exact Round.mk (j + 1) (weak_mk (fun t => if t = 201 then some 101 else some t) (by simp) (by simp [hks]) rfl) hjl (by omega)
        · obtain rfl : j = m.letters := by omega
          have hkey : (nth cl k :: (List.range m.letters).map fun a => clX cl (goV m k a)) = keyV cl m k := rfl
          rw [hkey]
          by_cases hmem : keyV cl m k ∈ p.1
          · rw [if_pos hmem] at hlk hNs
            simp [hlk]
            refine ⟨by omega, ?_⟩
            rw [ints_put _ _ _ hkP, hset]
            simp only [wrap_id ((k : Int) + 1) (by omega) (by omega)]
            exact Round.mk (k + 1, mp) (weak_mk some (by simp) (by simp [hNs]) rfl) ⟨hlt, by rw [hNs]; exact hmp⟩ (by simp only; omega)
          · rw [if_neg hmem] at hlk hNs
            have hput := hput (by omega) hmem
            simp [hlk]
            refine ⟨by omega, ?_⟩
            rw [ints_put _ _ _ hkP, hset]
            simp only [wrap_id ((k : Int) + 1) (by omega) (by omega)]
            exact Round.mk (k + 1, putS (bkey (keyV cl m k)) (.int .i64 (p.1.length : Nat)) mp) (weak_mk some (by simp) (by simp [hNs, hmpl]) rfl) ⟨hlt, by rw [hNs]; exact hput⟩ (by simp only; omega)
    · obtain rfl : k = m.next.length := by omega
      have hstep := ref_step hm hlv hR hN
      have hlive : 0 < (namesV cl m m.next.length).1.length := by
        obtain ⟨j, _, j2, _⟩ := hN.ys start hs ((hR.lv start hs).2 hst)
        omega
      have hmpl := hmp.len
      have hmore := fun h => ref_more hm hlv hN (many := many) h
      generalize namesV cl m m.next.length = p at *
      simp
      refine ⟨fun hend => ⟨_, .refl _, p.2, hNl, ?_, fun s hs => ⟨hstep.1.lo s hs, ?_⟩, rfl⟩, fun hgo => ?_⟩
      · have ho : OntoC cl m.next.length p.1.length := by
          rw [← hmpl, hend]
          rcases hon with h0 | h0
          · omega
          · exact h0
        exact ref_cls hm hlv hR hN ho hu.lt hu.cl fun s hs => by
          rw [hu.iff s (hu.lt s hs)]
          exact ⟨fun h => h.2, fun h => ⟨hs, h⟩⟩
      · have := hstep.2.2 s hs; omega
      · refine Round.mk (p.2, p.1.length) (weak_mk (fun t => if t = 200 then some 48 else some t) (by simp [hmpl]) (by simp) rfl) ⟨hstep.1, fun i hi => by have := hstep.2.2 i hi; simp only; omega, hNle, .inr hstep.2⟩ ?_
        simp only
        rcases hon with h0 | h0
        · omega
        · have := hmore h0; omega
end Go.AM
