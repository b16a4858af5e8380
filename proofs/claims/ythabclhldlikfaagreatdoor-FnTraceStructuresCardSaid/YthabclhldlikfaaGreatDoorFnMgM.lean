/-
  Several texts in one: AmWs FnWa FnWb FnWe.
-/
import Derived.Test.YthabclhldlikfaaGreatDoorAmTac
import Derived.Test.YthabclhldlikfaaGreatDoorFnMgK
import Derived.Test.YthabclhldlikfaaGreatDoorFnMgL
import Derived.Test.YthabclhldlikfaaGreatDoorFnMgN
import Derived.Test.YthabclhldlikfaaGreatDoorFnEq
import Derived.Test.YthabclhldlikfaaGreatDoorFnMgE
set_option linter.unusedVariables false
set_option linter.unusedSimpArgs false
set_option linter.unusedSectionVars false
set_option maxRecDepth 100000
set_option maxHeartbeats 1600000
namespace Go.AM
open Go.Proofs
def wkS (ρ : Nat → Option Nat) : AV → AV → Prop
  | .sfx a i, .sfx b j => ρ b = some a ∧ i = j
  | x, y => wk ρ x y
attribute [simp] wkS
theorem wkS_rep {w : World} {I : Nat → Prop} {hdr : Nat → Option Value} {ρ : Nat → Option Nat} {x y : AV} {v : Value} (h : wkS ρ x y) (hx : Rep w I hdr x [] v) : Rep w I (hdrOf ρ hdr) y [] v := by
  unfold wkS at h
  split at h
  · obtain ⟨h1, rfl⟩ := h
    simp only [Rep] at hx ⊢
    obtain ⟨_, a, n, c, hh, r⟩ := hx
    exact ⟨trivial, a, n, c, by unfold hdrOf; rw [h1]; exact hh, r⟩
  · exact wk_rep h hx
theorem weak_mkS {l ol l' ol' : List (Nat × AV)} {n : Nat} (ρ₀ : Nat → Option Nat) (hs : ∀ p, p ∈ l' → wkS (pinρ ρ₀) (asS l p.1) p.2) (ho : ∀ p, p ∈ ol' → wkO (pinρ ρ₀) ol p.1 p.2) (hi : injB (pinρ ρ₀) ol' = true) :
    Weak ⟨asS l, asO ol, n⟩ ⟨asS l', asO ol', n⟩ := by
  generalize hρ : pinρ ρ₀ = ρ at hs ho hi
  rintro P c a w ⟨I, hdr, F, h⟩
  have old : ∀ nm y, asO ol' nm = some y → (∃ k x, ρ nm = some k ∧ asO ol k = some x ∧ wkN ρ x y ∧ boxOk x = true) ∨ (ρ nm = none ∧ ∃ sz, y = .own sz false []) := by
    intro nm y hy
    obtain ⟨p, hp, rfl, rfl⟩ := asO_at hy
    have := ho p hp
    unfold wkO at this
    split at this
    · rename_i k hk
      split at this
      · rename_i x hx
        exact .inl ⟨k, x, hk, hx, this⟩
      · exact this.elim
    · rename_i hk
      split at this
      · rename_i sz nn m e
        obtain ⟨rfl, rfl⟩ := this
        exact .inr ⟨hk, sz, e⟩
      · exact this.elim
  have name : ∀ nm, asO ol' nm ≠ none → ∃ p, p ∈ ol' ∧ p.1 = nm := by
    intro nm hn
    obtain ⟨y, hy⟩ := Option.ne_none_iff_exists'.1 hn
    obtain ⟨p, hp, e, _⟩ := asO_at hy
    exact ⟨p, hp, e⟩
  refine ⟨I, hdrOf ρ hdr, fun nm => match ρ nm with | some k => F k | none => [], h.hI0, h.hIlt, h.hInew, h.fr, h.size, h.os, h.tape, h.out, h.df, h.n, fun t => ?_, ?_, ?_, ?_, ?_, ?_, ?_, fun nm v hv => by
    unfold hdrOf; rw [show ρ nm = some nm by rw [← hρ]; unfold pinρ; rw [if_pos (c.hpin nm v hv)]]; exact h.pin nm v hv⟩
  · rcases asS_at (l := l') (t := t) with e | ⟨p, hp, e1, e2⟩
    · show Rep w I _ (asS l' t) [] _
      rw [e]; simp [Rep]
    · have := hs p hp
      rw [e1, e2] at this
      exact wkS_rep this (h.sl t)
  · intro nm u hu
    unfold hdrOf at hu
    split at hu
    · exact h.hone _ u hu
    · cases hu; rfl
  · intro nm y hy
    rcases old nm y hy with ⟨k, x, hk, hx, hw, hb⟩ | ⟨hk, sz, rfl⟩
    · obtain ⟨u, hu, hr⟩ := h.ob k x hx
      refine ⟨u, by unfold hdrOf; rw [hk]; exact hu, ?_⟩
      simp only [hk]
      exact wkN_rep hw hb hr
    · refine ⟨nilSlice, by unfold hdrOf; rw [hk], ?_⟩
      simp [hk, Rep]
  · intro nm hy
    obtain ⟨y, hy⟩ := Option.ne_none_iff_exists'.1 hy
    rcases old nm y hy with ⟨k, x, hk, hx, _, _⟩ | ⟨hk, sz, rfl⟩
    · simp only [hk]
      exact h.nd k (by rw [show (St.mk (asS l) (asO ol) n).o k = asO ol k from rfl, hx]; simp)
    · simp only [hk]; exact List.nodup_nil
  · intro nm nm' hne hy hy' b hb hb'
    obtain ⟨y, hyy⟩ := Option.ne_none_iff_exists'.1 hy
    obtain ⟨y', hyy'⟩ := Option.ne_none_iff_exists'.1 hy'
    rcases old nm y hyy with ⟨k, x, hk, hx, _, _⟩ | ⟨hk, _, _⟩
    · rcases old nm' y' hyy' with ⟨k', x', hk', hx', _, _⟩ | ⟨hk', _, _⟩
      · simp only [hk] at hb
        simp only [hk'] at hb'
        have hkk : k ≠ k' := by
          intro e
          subst e
          obtain ⟨p, hp, e1⟩ := name nm hy
          obtain ⟨q, hq, e2⟩ := name nm' hy'
          have := injB_spec hi p hp q hq k (by rw [e1]; exact hk) (by rw [e2]; exact hk')
          exact hne (by rw [← e1, ← e2]; exact this)
        exact h.dj k k' hkk (by rw [show (St.mk (asS l) (asO ol) n).o k = asO ol k from rfl, hx]; simp) (by rw [show (St.mk (asS l) (asO ol) n).o k' = asO ol k' from rfl, hx']; simp) b hb hb'
      · simp only [hk'] at hb'; cases hb'
    · simp only [hk] at hb; cases hb
  · intro nm hy b hb
    obtain ⟨y, hyy⟩ := Option.ne_none_iff_exists'.1 hy
    rcases old nm y hyy with ⟨k, x, hk, hx, _, _⟩ | ⟨hk, _, _⟩
    · simp only [hk] at hb
      exact h.oi k (by rw [show (St.mk (asS l) (asO ol) n).o k = asO ol k from rfl, hx]; simp) b hb
    · simp only [hk] at hb; cases hb
  · intro nm hy b hb
    obtain ⟨y, hyy⟩ := Option.ne_none_iff_exists'.1 hy
    rcases old nm y hyy with ⟨k, x, hk, hx, _, _⟩ | ⟨hk, _, _⟩
    · simp only [hk] at hb
      exact h.oo k (by rw [show (St.mk (asS l) (asO ol) n).o k = asO ol k from rfl, hx]; simp) b hb
    · simp only [hk] at hb; cases hb
theorem compareWords_spec (a b : Bool) (u v : List Int) (hu : Fits u) (hv : Fits v) : ACalls1 Tryz.prog 145 [.sl 1 a (ints u), .sl 1 b (ints v)] (iv (cmpW u v)) := by
  refine walk (fun _ => false) mixed Go.Proofs.Tryz.func145 rfl rfl rfl (by kernel_rfl) rfl (by simp) (by kernel_rfl) ?_
  simp
  unfold cmpW
  by_cases h : u.length = v.length
  · simp [h]
    refine ⟨_, slCompare_spec a b u v hu hv, ?_⟩
    simp
  · unfold Fits at hu hv
    have h' : ¬ (u.length : Int) = v.length := by omega
    simp [h, h']
    rw [wrap_id _ (by omega) (by omega)]
theorem IsFinite_spec (a b c : Bool) (x : AlphaV) (hx : I64 x.letters) (hd : Fits x.depends) (rs : List (List Int)) (hl : rs.length ≤ 2000000) (hr : ∀ r ∈ rs, Fits r) : ACalls1 Tryz.prog 66 [alphaSl a x, .sl 1 b (srows c rs)] (bv (isFin x rs)) := by
  unfold isFin
  refine walk (fun t => t == 2) mixed Go.Proofs.Tryz.func66 rfl rfl rfl (by kernel_rfl) rfl (by simp) (by kernel_rfl) ?_
  simp
  refine ⟨_, IsAlphabet_spec a x hx hd, ?_⟩
  cases h : isAlphaV x
  · simp
  · have hok := alOk_of h
    have h8 := hok.len
    have hlet := hok.let_
    by_cases h40 : rs.length ≤ 40
    · simp [show ¬ (40 : Int) < (rs.length : Int) by omega]
      refine awp_loop2 [1, 2, 15, 16] [] (fun k : Nat => [(17, iv k)]) (fun _ => []) (fun k => k ≤ rs.length ∧ ∀ i, i < k → stepOk x.depends.length rs i = true) (fun k => rs.length - k) 0 (weak_mk some (by simp) (by simp) rfl) (by simp) ?_
      rintro k ⟨hk, hi⟩
      by_cases hlk : k < rs.length
      · have hfk := hr _ (nthR_mem hlk)
        have go : stepOk x.depends.length rs k = true → ∀ i, i < k + 1 → stepOk x.depends.length rs i = true := fun h i hi' => by
          by_cases e : i = k
          · subst e; exact h
          · exact hi i (by omega)
        have no : stepOk x.depends.length rs k = false → listOk x.depends.length rs = false := fun h => by
          unfold listOk
          rw [Bool.and_eq_false_iff]; left
          rw [← Bool.not_eq_true, List.all_eq_true]
          intro hall
          have := hall k (List.mem_range.2 hlk)
          rw [h] at this; cases this
        unfold stepOk at go no
        simp [hlk]
        refine ⟨_, isWord_spec a c x hlet h8 _ hfk, ?_⟩
        cases how : overW x.depends.length (nthR rs k)
        · simp
          exact no (by simp [how])
        · cases k with
          | zero =>
            simp [how, show IntKind.i64.wrap 1 = 1 from rfl]
            exact Round.mk (0 + 1) (weak_mk some (by simp) (by simp) rfl) ⟨hlk, go (by simp [how])⟩ (by omega)
          | succ k =>
            have hfk' := hr _ (nthR_mem (show k < rs.length by omega))
            have hwk : IntKind.i64.wrap ((k : Int) + 1 - 1) = (k : Int) := by rw [wrap_id _ (by omega) (by omega)]; omega
            have hwk2 : IntKind.i64.wrap (k : Int) = (k : Int) := wrap_id _ (by omega) (by omega)
            simp [show k < rs.length by omega, hwk, hwk2]
            refine ⟨_, compareWords_spec c c _ _ hfk' hfk, ?_⟩
            by_cases hc : cmpW (nthR rs k) (nthR rs (k + 1)) < 0
            · have hc' : ¬ (0 : Int) ≤ cmpW (nthR rs k) (nthR rs (k + 1)) := by omega
              simp [hc, hc']
              try rw [wrap_id ((k : Int) + 1 + 1) (by omega) (by omega)]
              exact Round.mk (k + 1 + 1) (weak_mk some (by simp) (by simp) rfl) ⟨hlk, go (by simp [how, hc])⟩ (by omega)
            · have hc' : (0 : Int) ≤ cmpW (nthR rs k) (nthR rs (k + 1)) := by omega
              simp [hc, hc']
              exact no (by simp [how, hc])
      · obtain rfl : k = rs.length := by omega
        have : listOk x.depends.length rs = true := by
          unfold listOk
          simp only [Bool.and_eq_true, decide_eq_true_eq, List.all_eq_true, List.mem_range]
          exact ⟨hi, h40⟩
        simp [this]
    · have : listOk x.depends.length rs = false := by
        unfold listOk; rw [decide_eq_false h40]; simp
      simp [show (40 : Int) < (rs.length : Int) by omega, this]
theorem quotient_spec (a b c : Bool) (t : List Int) (ht : TOk t) (u v : List Nat) (hu : WOk t.length u) (hv : WOk t.length v) : ACalls1 Tryz.prog 74 [.sl 1 a (ints t), .sl 1 b (ints (nats u)), .sl 1 c (ints (nats v))]
    (.tup [.sl 1 false (ints (nats ((cutN t u v).getD []))), bv (cutN t u v).isSome]) := by
  have hd := ht.1
  obtain ⟨hu1, hu2⟩ := hu
  obtain ⟨hv1, hv2⟩ := hv
  generalize hR : cutN t u v = R
  refine walk (fun t => t == 3024) mixed Go.Proofs.Tryz.func74 rfl rfl rfl (by kernel_rfl) rfl (by simp) (by kernel_rfl) ?_
  simp
  refine awp_loop2 [0, 10, 11] [] (fun q : Nat × Bool × List Nat => [(12, iv q.1), (2, .sl 1 q.2.1 (ints (nats q.2.2)))]) (fun q => [])
    (fun q => q.1 ≤ u.length ∧ q.2.2.length ≤ v.length ∧ (∀ c ∈ q.2.2, c < t.length) ∧ cutN t (u.drop q.1) q.2.2 = R) (fun q => u.length - q.1) (0, c, v) (weak_mk some (by simp) (by simp) rfl) (by simp; exact ⟨hv2, hR⟩) ?_
  rintro ⟨k, f, z⟩ ⟨hk, hz1, hz2, hz3⟩
  simp only at hk hz1 hz2 hz3
  by_cases hlt : k < u.length
  · have hc := hu2 _ (natAt_mem hlt)
    have hnn := nats_nth hlt
    have hdr : u.drop k = natAt u k :: u.drop (k + 1) := by rw [natAt_at hlt]; exact List.drop_eq_getElem_cons hlt
    rw [hdr, cutN] at hz3
    obtain ⟨m1, m2⟩ := firsts_spec' ht hz2
    generalize natAt u k = e at *
    simp [hlt, hnn]
    refine ⟨_, firsts_spec a f t ht z ⟨by omega, hz2⟩, ?_⟩
    simp
    refine ⟨_, has_spec _ m1 e (by omega), ?_⟩
    rw [m2]
    cases hf : isFree t z e
    · rw [hf, if_neg (by simp)] at hz3
      subst hz3
      simp [nats]
    · rw [hf, if_pos rfl] at hz3
      have hm := isFree_mem hf
      have hel := List.length_erase_of_mem hm
      simp
      refine ⟨_, withoutFirst_spec f z (by omega) e hm, ?_⟩
      simp
      rw [wrap_id ((k : Int) + 1) (by omega) (by omega)]
      exact Round.mk (k + 1, false, z.erase e) (weak_mk some (by simp) (by simp) rfl) ⟨hlt, by simp only; omega, fun c hc => hz2 c (List.mem_of_mem_erase hc), hz3⟩ (by simp only; omega)
  · obtain rfl : k = u.length := by omega
    rw [List.drop_length, cutN] at hz3
    subst hz3
    simp
/-- Turned round up to a place. -/
def RevTo (l m : List Int) (i : Nat) : Prop := m.length = l.length ∧ ∀ p, p < l.length → nth m p = if p < i ∨ l.length - i ≤ p then nth l (l.length - 1 - p) else nth l p
theorem RevTo.done {l m : List Int} {i : Nat} (h : RevTo l m i) (hi : l.length ≤ 2 * i + 1) : m = l.reverse := by
  refine list_ext (by simp [h.1]) fun p hp => ?_
  rw [h.1] at hp
  have hrev : nth l.reverse p = nth l (l.length - 1 - p) := by rw [nth_at (show p < l.reverse.length by simpa using hp), List.getElem_reverse, nth_at (by omega)]
  rw [h.2 p hp, hrev]
  split
  · rfl
  · congr 1; omega
theorem RevTo.step {l m : List Int} {i : Nat} (h : RevTo l m i) (hi : 2 * i + 1 < l.length) : RevTo l ((m.set i (nth m (l.length - 1 - i))).set (l.length - 1 - i) (nth m i)) (i + 1) := by
  obtain ⟨h1, h2⟩ := h
  refine ⟨by simp [h1], fun p hp => ?_⟩
  have e1 := h2 i (by omega)
  have e2 := h2 (l.length - 1 - i) (by omega)
  rw [if_neg (by omega)] at e1 e2
  rw [nth_set _ (by simp; omega) p (by simp; omega)]
  by_cases c1 : p = l.length - 1 - i
  · rw [if_pos c1, if_pos (by omega), e1]; congr 1; omega
  · rw [if_neg c1, nth_set _ (by omega) p (by omega)]
    by_cases c2 : p = i
    · rw [if_pos c2, if_pos (by omega), e2, c2]
    · rw [if_neg c2, h2 p hp]
      by_cases c3 : p < i ∨ l.length - i ≤ p
      · rw [if_pos c3, if_pos (by omega)]
      · rw [if_neg c3, if_neg (by omega)]
theorem Reverse_spec (nn : Bool) (l : List Int) (hl : l.length ≤ 1000000) : ACalls2 Tryz.prog 223 [.own 1 nn (ints l)] [.own 1 nn (ints l.reverse)] (.tup []) := by
  refine walkO (fun _ => false) mixed Go.Proofs.Tryz.func223 rfl rfl rfl (by kernel_rfl) (by simp) (by simp) (by simp) (by kernel_rfl) ?_
  simp
  rw [wrap_id ((l.length : Int) - 1) (by omega) (by omega)]
  refine awp_loop2 [0] [] (fun q : Nat × List Int => [(2, iv q.1), (3, iv ((l.length : Int) - 1 - q.1))]) (fun q => [(1000000000, .own 1 nn (ints q.2))]) (fun q => q.1 ≤ l.length ∧ RevTo l q.2 q.1) (fun q => l.length - q.1) (0, l) (weak_mk some (by simp) (by simp) rfl) ⟨by simp, rfl, fun p hp => by simp; omega⟩ ?_
  rintro ⟨i, m⟩ ⟨hi, hR⟩
  simp only at hi hR
  have hml := hR.1
  by_cases hlt : 2 * i + 1 < l.length
  · obtain ⟨j, hj⟩ : ∃ j : Nat, (l.length : Int) - 1 - i = j := ⟨l.length - 1 - i, by omega⟩
    have hjn : j = l.length - 1 - i := by omega
    have hs := hR.step hlt
    rw [← hjn] at hs
    rw [hj]
    have hjl : j < m.length := by omega
    have hil : i < m.length := by omega
    have hij : (i : Int) < (j : Int) := by omega
    have w1 : IntKind.i64.wrap ((i : Int) + 1) = ((i + 1 : Nat) : Int) := by rw [wrap_id _ (by omega) (by omega)]; omega
    have w2 : IntKind.i64.wrap ((j : Int) - 1) = (l.length : Int) - 1 - ((i + 1 : Nat) : Int) := by rw [wrap_id _ (by omega) (by omega)]; omega
    simp [show i < j by omega, hij, hjl, hil, show i + 1 ≤ m.length from hil, show j + 1 ≤ m.length from hjl, ints_put]
    repeat (rw [exE_eq]; simp [show i < j by omega, hij, hjl, hil, show i + 1 ≤ m.length from hil, show j + 1 ≤ m.length from hjl, ints_put])
    repeat (refine And.intro (by first | omega | exact ⟨by kernel_rfl, by kernel_rfl⟩) ?_)
    try simp [w1, w2]
    exact Round.mk (i + 1, (m.set i (nth m j)).set j (nth m i)) (weak_mk some (by simp) (by simp) rfl) ⟨by simp only; omega, hs⟩ (by simp only; omega)
  · have hno : ¬ ((i : Int) < (l.length : Int) - 1 - i) := by omega
    have := hR.done (by omega)
    subst this
    simp [hno]
theorem reversed_spec (a : Bool) (l : List Int) (hl : l.length ≤ 1000000) : ACalls1 Tryz.prog 204 [.sl 1 a (ints l)] (.own 1 false (ints l.reverse)) := by
  refine walk (fun t => t == 2007) mixed Go.Proofs.Tryz.func204 rfl rfl rfl (by kernel_rfl) rfl (by simp) (by kernel_rfl) ?_
  simp
  refine ⟨_, Clone_spec a l (by unfold Fits; omega), ?_⟩
  simp
  refine ⟨_, _, Reverse_spec false l hl, ?_⟩
  simp
theorem lasts_spec (a b : Bool) (t : List Int) (ht : TOk t) (u : List Nat) (hu : WOk t.length u) : ACalls1 Tryz.prog 150 [.sl 1 a (ints t), .sl 1 b (ints (nats u))] (iv (firstsF t u.reverse).1) := by
  have hr : (nats u).reverse = nats u.reverse := by simp [nats]
  have hl1 := hu.1
  refine walk (fun _ => false) mixed Go.Proofs.Tryz.func150 rfl rfl rfl (by kernel_rfl) rfl (by simp) (by kernel_rfl) ?_
  simp
  refine ⟨_, reversed_spec b (nats u) (by simp; omega), ?_⟩
  rw [hr]
  simp
  refine ⟨_, firsts_spec a false t ht u.reverse ⟨by simp; exact hl1, fun c hc => hu.2 c (List.mem_reverse.1 hc)⟩, ?_⟩
  simp
theorem symT_of {x : AlphaV} (hx : isAlphaV x = true) : SymT x.depends :=
  ⟨⟨by have := (alOk_of hx).len; omega, fun i hi => (alOk_M (alOk_of hx) hi).1⟩, fun a b ha hb => by
    have h := hx
    unfold isAlphaV at h
    simp only [Bool.and_eq_true, List.all_eq_true, List.mem_range] at h
    have := h.2 a ha
    simp only [alphaRow, Bool.and_eq_true, List.all_eq_true, beq_iff_eq, List.mem_range] at this
    exact this.2 b hb⟩
theorem primesOf_spec (a b : Bool) (x : AlphaV) (hx : isAlphaV x = true) (w : List Int) (hw : overW x.depends.length w = true) : ACalls1 Tryz.prog 67 [alphaSl a x, .sl 1 b (ints w)] (.own 1 true (srows true (primesI x.depends w))) := by
  have hT := symT_of hx
  obtain ⟨e, hu, h24⟩ := overW_wn hw
  have hpm := nf_perm hT.ok _ rfl hu.2
  have hfl := hpm.length_eq
  rw [wn_len] at hfl
  have hwl := overW_len hw
  have hPos := positions_spec a b x hx w hw
  have hI : ∀ k, k < w.length → nthR (primesI x.depends w) k = nats (nf x.depends (pastW x.depends (nf x.depends (wn w)) k)) := fun k hk => by
    rw [nthR_at (by simp [primesI]; exact hk)]
    unfold primesI primeR
    simp [wn_natsU]
  have hlI : (primesI x.depends w).length = w.length := by simp [primesI]
  have hfu : ∀ c ∈ nf x.depends (wn w), c < x.depends.length := fun c hc => hu.2 c (hpm.mem_iff.1 hc)
  generalize nf x.depends (wn w) = f at *
  have hf24 : f.length ≤ 24 := by omega
  have hrel := pos_rel (t := x.depends) (u := f) hf24
  have hcv := pos_conv (t := x.depends) (u := f) hf24
  have hpl : (posM x.depends f).length = f.length := by simp [posM]
  have hpick : ∀ k, k < f.length → pick (nats f) (nth (posM x.depends f) k) (nats f).length = nats (pastW x.depends f k) := fun k hk => by
    have hhi : ∀ i, f.length ≤ i → tb (nth (posM x.depends f) k) i = false := fun i hi => by
      cases h : tb (nth (posM x.depends f) k) i
      · rfl
      · have := pos_le hf24 hk h; omega
    rw [← pick_bits (by simp; omega) (by simpa using hhi), sel_bits hf24 hhi, ← past_sel hT.ok.2 hT.sym hfu hf24 hk]
  have hbits : ∀ k, k < f.length → ∀ i, f.length ≤ i → tb (nth (posM x.depends f) k) i = false := fun k hk i hi => by
    cases h : tb (nth (posM x.depends f) k) i
    · rfl
    · have := pos_le hf24 hk h; omega
  generalize primesI x.depends w = Q at *
  refine walk (fun t => t == 2 || t == 3030) mixed Go.Proofs.Tryz.func67 rfl rfl rfl (by kernel_rfl) rfl (by simp) (by kernel_rfl) ?_
  simp
  refine ⟨_, hPos, ?_⟩
  simp
  refine ⟨_, converse_spec _ _ hrel, ?_⟩
  rw [hcv]
  simp [hpl]
  refine awp_loop2 [2, 5, 18, 19] [14000, 18] (fun k : Nat => [(20, iv k), (7, .ref 200)]) (fun k => [(200, .own 1 true (srows true (Q.take k)))]) (fun k => k ≤ f.length) (fun k => f.length - k) 0 (weak_mk (fun t => if t = 200 then some 16 else some t) (by simp) (by simp) rfl) (by simp) ?_
  intro k hk
  by_cases hlt : k < f.length
  · have hpo := pastW_ok (t := x.depends) hfu hlt
    have htk : Q.take (k + 1) = Q.take k ++ [nthR Q k] := by rw [List.take_succ_eq_append_getElem (by omega), nthR_at (by omega)]
    have hql : (Q.take k).length = k := by simp; omega
    have hLA := lettersAt_spec true (nats f) (nth (posM x.depends f) k) (posM_M hf24 hlt) (by simp; omega) (by simpa using hbits k hlt)
    rw [hpick k hlt] at hLA
    have hNo := normal_spec a true x.depends hT.ok (pastW x.depends f k) ⟨by omega, hpo.1⟩
    rw [← hI k (by omega)] at hNo
    generalize nthR Q k = r at *
    generalize Q.take k = qs at *
    simp [hlt, hpl, show k + 1 ≤ f.length from hlt]
    repeat (rw [exE_eq]; simp [hlt, hpl, show k + 1 ≤ f.length from hlt])
    refine ⟨_, ties_spec a x, ?_⟩
    simp
    refine ⟨_, hLA, ?_⟩
    simp
    refine ⟨_, hNo, ?_⟩
    simp [hql]
    repeat (refine And.intro (by first | omega | exact ⟨by kernel_rfl, by kernel_rfl⟩) ?_)
    try simp [wrap_id ((k : Int) + 1) (by omega) (by omega)]
    exact Round.mk (k + 1) (weak_mk (fun t => if t = 200 then some 32 else some t) (by simp) (by simp [htk]) rfl) hlt (by omega)
  · obtain rfl : k = f.length := by omega
    have : Q.take f.length = Q := List.take_of_length_le (by omega)
    simp [this]
theorem srows_put (b : Bool) (rs : List (List Int)) (k : Nat) (r : List Int) (h : k < rs.length) : List.take k (srows b rs) ++ .sl 1 b (ints r) :: List.drop (k + 1) (srows b rs) = srows b (rs.set k r) := by
  rw [srows_take, srows_drop, ← srows_cons, ← srows_append]
  rw [List.set_eq_take_append_cons_drop, if_pos h]
theorem nthR_drop {l m : List (List Int)} {j k : Nat} (hl : l.length = m.length) (h : l.drop j = m.drop j) (hj : j ≤ k) (hk : k < m.length) : nthR l k = nthR m k := by
  rw [nthR_at (by omega), nthR_at hk]
  have : (l.drop j)[k - j]? = (m.drop j)[k - j]? := by rw [h]
  simp only [List.getElem?_drop, show j + (k - j) = k by omega] at this
  rwa [List.getElem?_eq_getElem (by omega), List.getElem?_eq_getElem hk, Option.some.injEq] at this
theorem drop_stepR {l m : List (List Int)} {j : Nat} (h : l.drop j = m.drop j) : l.drop (j + 1) = m.drop (j + 1) := by
  have : (l.drop j).drop 1 = (m.drop j).drop 1 := by rw [h]
  simpa [List.drop_drop, Nat.add_comm] using this
theorem CompactFunc_spec (nn b : Bool) (rs : List (List Int)) (hl : rs.length ≤ 1000000) (hf : ∀ r ∈ rs, Fits r) :
    ACalls2 Tryz.prog 152 [.own 1 nn (srows b rs), .fn 82 []] [.junk, .fn 82 []] (.own 1 nn (srows b (compK rs rs.length))) := by
  refine walkJ (fun _ => false) [true, false] mixed Go.Proofs.Tryz.func152 rfl rfl rfl (by kernel_rfl) (by simp) (by simp) (by simp) (by kernel_rfl) ?_
  simp
  have hc1 : compK rs 1 = rs.take 1 → True := fun _ => trivial
  have start : ∀ h : 0 < rs.length, compK rs 1 = rs.take 1 := fun h => by
    rw [compK, if_neg (by omega), compK, List.take_succ_eq_append_getElem h, nthR_at h]; rfl
  by_cases h2 : rs.length < 2
  · have : compK rs rs.length = rs := by
      by_cases h0 : rs.length = 0
      · rw [List.eq_nil_of_length_eq_zero h0]; rfl
      · have h1 : rs.length = 1 := by omega
        rw [h1, start (by omega)]; exact List.take_of_length_le (by omega)
    simp [show (rs.length : Int) < 2 by omega, show ¬ (2 : Int) ≤ (rs.length : Int) by omega, this]
  · simp [show ¬ (rs.length : Int) < 2 by omega, show (2 : Int) ≤ (rs.length : Int) by omega]
    refine awp_loop2 [0, 1] [1000000000] (fun m : Nat => [(5, iv ((m : Int) + 1))]) (fun _ => []) (fun m => m + 1 ≤ rs.length ∧ compK rs (m + 1) = rs.take (m + 1)) (fun m => rs.length - m) 0 (weak_mk some (by simp) (by simp) rfl) ⟨by omega, start (by omega)⟩ ?_
    rintro m ⟨hm, hcm⟩
    have hsuc : compK rs (m + 1 + 1) = if 0 < m + 1 ∧ nthR rs (m + 1) = nthR rs m then compK rs (m + 1) else compK rs (m + 1) ++ [nthR rs (m + 1)] := rfl
    have w0 : IntKind.i64.wrap (m : Int) = (m : Int) := wrap_id _ (by omega) (by omega)
    by_cases hmk : m + 1 < rs.length
    · have w1 : IntKind.i64.wrap ((m : Int) + 1 + 1) = ((m + 1 : Nat) : Int) + 1 := by rw [wrap_id _ (by omega) (by omega)]; omega
      have t1 : ((m : Int) + 1).toNat = m + 1 := by omega
      have i1 : (m : Int) + 1 < (rs.length : Int) := by omega
      have i0 : (0 : Int) ≤ (m : Int) + 1 := by omega
      simp [i1, i0, t1, hmk, show m < rs.length by omega, show m + 1 ≤ rs.length by omega, show m + 1 + 1 ≤ rs.length from hmk, w0]
      repeat (rw [exE_eq]; simp [i1, i0, t1, hmk, show m < rs.length by omega, show m + 1 ≤ rs.length by omega, show m + 1 + 1 ≤ rs.length from hmk, w0])
      refine ⟨_, Equal_spec b b _ _ (hf _ (nthR_mem hmk)), ?_⟩
      by_cases heq : nthR rs (m + 1) = nthR rs m
      · rw [if_pos ⟨by omega, heq⟩] at hsuc
        simp [heq, i1, i0, t1, hmk]
        refine awp_loop2 [0, 1, 6] [] (fun q : Nat × Nat × List (List Int) => [(7, iv ((q.1 : Int) + 1)), (5, iv q.2.1)]) (fun q => [(1000000000, .own 1 nn (srows b q.2.2))])
          (fun q => m + 1 + (q.1 + 1) ≤ rs.length ∧ q.2.1 < m + 1 + (q.1 + 1) ∧ q.2.2.length = rs.length ∧ q.2.2.take q.2.1 = compK rs (m + 1 + (q.1 + 1)) ∧ q.2.2.drop (m + 1 + q.1) = rs.drop (m + 1 + q.1)) (fun q => rs.length - q.1) (0, m + 1, rs) (weak_mkS some (by simp) (by simp) rfl) ⟨by simp only; omega, by simp only; omega, rfl, by simp only [Nat.zero_add]; rw [hsuc, hcm], rfl⟩ ?_
        rintro ⟨j, i, L⟩ ⟨hj, hi, hL, ht, hd⟩
        simp only at hj hi hL ht hd
        have hsucj : compK rs (m + 1 + (j + 1) + 1) = if 0 < m + 1 + (j + 1) ∧ nthR rs (m + 1 + (j + 1)) = nthR rs (m + 1 + j) then compK rs (m + 1 + (j + 1)) else compK rs (m + 1 + (j + 1)) ++ [nthR rs (m + 1 + (j + 1))] := rfl
        have wj : IntKind.i64.wrap (j : Int) = (j : Int) := wrap_id _ (by omega) (by omega)
        have tj : ((j : Int) + 1).toNat = j + 1 := by omega
        by_cases hjk : m + 1 + (j + 1) < rs.length
        · have wj1 : IntKind.i64.wrap ((j : Int) + 1 + 1) = ((j + 1 : Nat) : Int) + 1 := by rw [wrap_id _ (by omega) (by omega)]; omega
          have n1 := nthR_drop hL hd (show m + 1 + j ≤ m + 1 + (j + 1) by omega) hjk
          have n0 := nthR_drop hL hd (Nat.le_refl _) (show m + 1 + j < rs.length by omega)
          have ij : (j : Int) + 1 < ((rs.length - (m + 1) : Nat) : Int) := by omega
          have ij' : j + 1 < rs.length - (m + 1) := by omega
          have k1 : m + 1 + (j + 1) < L.length := by omega
          have k0 : m + 1 + j < L.length := by omega
          have k0' : m + 1 + j < rs.length := by omega
          have z1 : (0 : Int) ≤ (j : Int) + 1 := by omega
          simp [ij, ij', k1, k0, k0', hjk, tj, z1, wj, hL, show m + 1 + j + 1 ≤ rs.length by omega, show m + 1 + (j + 1) + 1 ≤ rs.length by omega]
          repeat (rw [exE_eq]; simp [ij, ij', k1, k0, k0', hjk, tj, z1, wj, hL, show m + 1 + j + 1 ≤ rs.length by omega, show m + 1 + (j + 1) + 1 ≤ rs.length by omega])
          rw [n1, n0]
          refine ⟨_, Equal_spec b b _ _ (hf _ (nthR_mem hjk)), ?_⟩
          by_cases he2 : nthR rs (m + 1 + (j + 1)) = nthR rs (m + 1 + j)
          · rw [if_pos ⟨by omega, he2⟩] at hsucj
            simp [he2, wj1]
            exact Round.mk (j + 1, i, L) (weak_mkS some (by simp) (by simp) rfl) ⟨by simp only; omega, by simp only; omega, hL, by simp only; rw [show m + 1 + (j + 1 + 1) = m + 1 + (j + 1) + 1 by omega, hsucj]; exact ht, drop_stepR hd⟩ (by simp only; omega)
          · rw [if_neg (fun h => he2 h.2)] at hsucj
            have il : i < L.length := by omega
            have il' : i < rs.length := by omega
            have wi : IntKind.i64.wrap ((i : Int) + 1) = ((i + 1 : Nat) : Int) := by rw [wrap_id _ (by omega) (by omega)]; omega
            simp [he2, ij, ij', k1, k0, k0', hjk, tj, z1, wj, hL, il, il', show i + 1 ≤ rs.length from il', n1, srows_put, wi, wj1]
            repeat (refine And.intro (by omega) ?_)
            try simp [srows_put, il, wi, wj1]
            refine Round.mk (j + 1, i + 1, L.set i (nthR rs (m + 1 + (j + 1)))) (weak_mkS some (by simp) (by simp) rfl) ⟨by simp only; omega, by simp only; omega, by simpa using hL, ?_, ?_⟩ (by simp only; omega)
            · simp only
              rw [show m + 1 + (j + 1 + 1) = m + 1 + (j + 1) + 1 by omega, hsucj, ← ht, List.take_succ_eq_append_getElem (by simp; omega), List.take_set_of_le (by omega), List.getElem_set_self]
            · simp only
              rw [List.drop_set_of_lt (by omega)]
              exact drop_stepR hd
        · have hfin : m + 1 + (j + 1) = rs.length := by omega
          rw [hfin] at ht
          have ij : ¬ (j : Int) + 1 < ((rs.length - (m + 1) : Nat) : Int) := by omega
          have ij' : ¬ j + 1 < rs.length - (m + 1) := by omega
          have ij2 : ((rs.length - (m + 1) : Nat) : Int) ≤ (j : Int) + 1 := by omega
          simp [ij, ij', ij2, hL, show i < rs.length by omega, show (i : Int) < (rs.length : Int) by omega]
          refine ⟨by omega, ?_⟩
          rw [srows_take, List.take_append_of_le_length (by simp; omega), List.take_of_length_le (by simp; omega), ht]
          exact .refl _
      · rw [if_neg (fun h => heq h.2)] at hsuc
        simp [heq, w1]
        exact Round.mk (m + 1) (weak_mk some (by simp) (by simp) rfl) ⟨hmk, by rw [hsuc, hcm, List.take_succ_eq_append_getElem hmk, nthR_at hmk]⟩ (by omega)
    · have hm1 : m + 1 = rs.length := by omega
      rw [hm1, List.take_length] at hcm
      simp [show ¬ ((m : Int) + 1 < (rs.length : Int)) by omega, hcm]
theorem inOrder_spec (nn b : Bool) (rs : List (List Int)) (hl : rs.length ≤ 1000000) (hf : ∀ r ∈ rs, Fits r) :
    ACalls2 Tryz.prog 69 [.own 1 nn (srows b rs)] [.junk] (.own 1 nn (srows b (compK (sortR cmpW rs) (sortR cmpW rs).length))) := by
  have hsl : (sortR cmpW rs).length = rs.length := (sortR_perm cmpW rs).length_eq
  refine walkJ (fun t => t == 2004 || t == 2006) [true] mixed Go.Proofs.Tryz.func69 rfl rfl rfl (by kernel_rfl) (by simp) (by simp) (by simp) (by kernel_rfl) ?_
  simp
  refine ⟨_, _, SortFuncS_spec cmpW_tot nn b rs (by omega) 145 (fun x hx y hy => compareWords_spec b b x y (hf x hx) (hf y hy)), ?_⟩
  simp
  refine ⟨_, _, CompactFunc_spec nn b (sortR cmpW rs) (by omega) (fun r hr => hf r (sortR_mem.1 hr)), ?_⟩
  simp
def clashT (tg : List Int → List Int → Bool) (P : List (List Int)) (k : Nat) : List Int := (List.range k).map fun e => orMask 0 (fun f => !tg (nthR P e) (nthR P f)) P.length
theorem clashT_succ (tg : List Int → List Int → Bool) (P : List (List Int)) (k : Nat) : clashT tg P (k + 1) = clashT tg P k ++ [orMask 0 (fun f => !tg (nthR P k) (nthR P f)) P.length] := by simp [clashT, List.range_succ]
@[simp] theorem clashT_length (tg : List Int → List Int → Bool) (P : List (List Int)) (k : Nat) : (clashT tg P k).length = k := by simp [clashT]
/-- The structure of primes, where a function tells which stand together. -/
def structG (t : List Int) (tg : List Int → List Int → Bool) (P : List (List Int)) : StrucV × Int := if P.length ≤ 16 then (⟨belowS t P P.length, clashT tg P P.length, labS P P.length⟩, 0) else (⟨[], [], []⟩, 3)
theorem structureOf_spec (a b c : Bool) (x : AlphaV) (ht : TOk x.depends) (P : List (List Int)) (hP : P.length ≤ 1000000) (hr : ∀ r ∈ P, PrOk x.depends.length r ∧ LastOk x.depends r) (g : FuncId) (caps : List AV) (tg : List Int → List Int → Bool)
    (hg : ∀ u ∈ P, ∀ v ∈ P, ACalls1 Tryz.prog g (.sl 1 c (ints u) :: .sl 1 c (ints v) :: caps) (bv (tg u v))) (hc : immL [.fn g caps] = true) :
    ACalls1 Tryz.prog 68 [alphaSl a x, .sl 1 b (srows c P), .fn g caps] (.tup [strucOw false false false (structG x.depends tg P).1, iv (structG x.depends tg P).2]) := by
  have hd := ht.1
  unfold structG
  refine walk (fun t => t == 3) mixed Go.Proofs.Tryz.func68 rfl rfl rfl (by kernel_rfl) rfl (by simp) (by kernel_rfl) ?_
  simp
  by_cases h16 : P.length ≤ 16
  · simp [h16, show ¬ (16 : Int) < (P.length : Int) by omega, show (P.length : Int) ≤ 16 by omega]
    refine ⟨_, ties_spec a x, ?_⟩
    simp
    refine awp_loop2 [1, 2, 6, 8, 9, 25, 26] [6] (fun f : Nat => [(27, iv f)]) (fun f => [(9, .box [.ref 200, .ref 201, .ref 202]), (200, .own 1 false (ints (belowS x.depends P f))), (201, .own 1 false (ints (clashT tg P f))), (202, .own 1 false (ints (labS P f)))]) (fun f => f ≤ P.length) (fun f => P.length - f) 0 (weak_mk (fun t => if t = 200 then none else if t = 201 then none else if t = 202 then none else some t) (by simp) (by simp [belowS, labS, clashT]) rfl) (by simp) ?_
    intro f hf
    by_cases hlf : f < P.length
    · obtain ⟨⟨o1, o2⟩, o3⟩ := hr _ (nthR_mem hlf)
      obtain ⟨e1, hu1, h24⟩ := overW_wn o1
      have hB : belowF x.depends P f = orMask 0 (belQ x.depends P f) P.length := rfl
      simp [hlf]
      refine awp_loop2 [1, 2, 6, 8, 9, 10, 11, 25, 26, 27, 32, 33] [6, 9, 200, 201, 202] (fun e : Nat => [(34, iv e), (12, iv (orMask 0 (belQ x.depends P f) e)), (13, iv (orMask 0 (fun e => !tg (nthR P f) (nthR P e)) e))]) (fun _ => []) (fun e => e ≤ P.length) (fun e => P.length - e) 0 (weak_mk some (by simp [orMask]) (by simp) rfl) (by simp) ?_
      intro e he
      by_cases hle : e < P.length
      · obtain ⟨⟨p1, p2⟩, p3⟩ := hr _ (nthR_mem hle)
        obtain ⟨e2, hu2, h24'⟩ := overW_wn p1
        have hwe : IntKind.i64.wrap ((e : Int) + 1) = ((e + 1 : Nat) : Int) := by rw [wrap_id _ (by omega) (by omega)]; omega
        have hstep : orMask 0 (belQ x.depends P f) (e + 1) = if belQ x.depends P f e = true then ibits .or .i64 (orMask 0 (belQ x.depends P f) e) (pow1 e) else orMask 0 (belQ x.depends P f) e := rfl
        have hstep2 : orMask 0 (fun e => !tg (nthR P f) (nthR P e)) (e + 1) = if (!tg (nthR P f) (nthR P e)) = true then ibits .or .i64 (orMask 0 (fun e => !tg (nthR P f) (nthR P e)) e) (pow1 e) else orMask 0 (fun e => !tg (nthR P f) (nthR P e)) e := rfl
        have hq := quotient_spec a c c x.depends ht (wn (nthR P e)) (wn (nthR P f)) hu2 hu1
        rw [← e1, ← e2] at hq
        rw [show (cutN x.depends (wn (nthR P e)) (wn (nthR P f))).isSome = withinI x.depends (nthR P e) (nthR P f) from rfl] at hq
        have hgc := hg _ (nthR_mem hlf) _ (nthR_mem hle)
        have hone := one_spec e (by omega)
        generalize orMask 0 (belQ x.depends P f) e = mk at *
        generalize orMask 0 (fun e => !tg (nthR P f) (nthR P e)) e = mc at *
        simp [hle]
        refine ⟨_, hq, ?_⟩
        by_cases hef : e = f
        · subst hef
          rw [if_neg (by simp [belQ])] at hstep
          cases hw : withinI x.depends (nthR P e) (nthR P e)
          · simp
            refine ⟨_, hgc, ?_⟩
            cases ht : tg (nthR P e) (nthR P e)
            · rw [ht, if_pos (by rfl)] at hstep2
              simp
              refine ⟨_, hone, ?_⟩
              simp [hwe]
              exact Round.mk (e + 1) (weak_mk some (by simp [hstep, hstep2]) (by simp) rfl) hle (by omega)
            · rw [ht, if_neg (by simp)] at hstep2
              simp [hwe]
              exact Round.mk (e + 1) (weak_mk some (by simp [hstep, hstep2]) (by simp) rfl) hle (by omega)
          · simp
            refine ⟨_, hgc, ?_⟩
            cases ht : tg (nthR P e) (nthR P e)
            · rw [ht, if_pos (by rfl)] at hstep2
              simp
              refine ⟨_, hone, ?_⟩
              simp [hwe]
              exact Round.mk (e + 1) (weak_mk some (by simp [hstep, hstep2]) (by simp) rfl) hle (by omega)
            · rw [ht, if_neg (by simp)] at hstep2
              simp [hwe]
              exact Round.mk (e + 1) (weak_mk some (by simp [hstep, hstep2]) (by simp) rfl) hle (by omega)
        · have hfe : ¬ (f : Int) = (e : Int) := by omega
          have hfe' : ¬ f = e := by omega
          cases hw : withinI x.depends (nthR P e) (nthR P f)
          · rw [if_neg (by simp [belQ, hw])] at hstep
            simp
            refine ⟨_, hgc, ?_⟩
            cases ht : tg (nthR P f) (nthR P e)
            · rw [ht, if_pos (by rfl)] at hstep2
              simp
              refine ⟨_, hone, ?_⟩
              simp [hwe]
              exact Round.mk (e + 1) (weak_mk some (by simp [hstep, hstep2]) (by simp) rfl) hle (by omega)
            · rw [ht, if_neg (by simp)] at hstep2
              simp [hwe]
              exact Round.mk (e + 1) (weak_mk some (by simp [hstep, hstep2]) (by simp) rfl) hle (by omega)
          · rw [if_pos (by simp [belQ, hw, hef])] at hstep
            simp [hfe, hfe']
            refine ⟨_, hone, ?_⟩
            simp
            refine ⟨_, hgc, ?_⟩
            cases ht : tg (nthR P f) (nthR P e)
            · rw [ht, if_pos (by rfl)] at hstep2
              simp
              refine ⟨_, hone, ?_⟩
              simp [hwe]
              exact Round.mk (e + 1) (weak_mk some (by simp [hstep, hstep2]) (by simp) rfl) hle (by omega)
            · rw [ht, if_neg (by simp)] at hstep2
              simp [hwe]
              exact Round.mk (e + 1) (weak_mk some (by simp [hstep, hstep2]) (by simp) rfl) hle (by omega)
      · obtain rfl : e = P.length := by omega
        have hwf : IntKind.i64.wrap ((f : Int) + 1) = ((f + 1 : Nat) : Int) := by rw [wrap_id _ (by omega) (by omega)]; omega
        have s1 := belowS_succ x.depends P f
        have s2 := clashT_succ tg P f
        have s3 := labS_succ P f
        rw [hB] at s1
        have hL := lasts_spec a c x.depends ht (wn (nthR P f)) hu1
        rw [← e1] at hL
        have hle := least_spec (firstsF x.depends (wn (nthR P f)).reverse).1 (firsts_spec' ht fun c hc => hu1.2 c (List.mem_reverse.1 hc)).1
        rw [show ((lowest (firstsF x.depends (wn (nthR P f)).reverse).1 : Nat) : Int) = labF P f from o3] at hle
        generalize labF P f = lb at *
        generalize orMask 0 (belQ x.depends P f) P.length = mk at *
        generalize orMask 0 (fun e => !tg (nthR P f) (nthR P e)) P.length = mc at *
        simp
        repeat (refine And.intro (by first | omega | exact ⟨by kernel_rfl, by kernel_rfl⟩) ?_)
        try simp
        refine ⟨_, hL, ?_⟩
        simp
        refine ⟨_, hle, ?_⟩
        simp
        repeat (refine And.intro (by first | omega | exact ⟨by kernel_rfl, by kernel_rfl⟩) ?_)
        try simp [hwf]
        exact Round.mk (f + 1) (weak_mk (fun t => if t = 200 then some 70 else if t = 201 then some 75 else if t = 202 then some 85 else some t) (by simp) (by simp [s1, s2, s3]) rfl) hlf (by omega)
    · obtain rfl : f = P.length := by omega
      simp
  · simp [h16, show (16 : Int) < (P.length : Int) by omega, show ¬ (P.length : Int) ≤ 16 by omega]
theorem structure11_spec (a c cu cv : Bool) (x : AlphaV) (ht : TOk x.depends) (u v w : List Int) (hu : overW x.depends.length u = true) (hv : overW x.depends.length v = true) (hw : overW x.depends.length w = true) :
    ACalls1 Tryz.prog 72 [.sl 1 c (ints w), .ip [iv x.letters, .sl 1 a (ints x.depends)], .ip [.sl 1 cu (ints u)], .ip [.sl 1 cv (ints v)]] (bv (withinI x.depends u w && withinI x.depends v w)) := by
  obtain ⟨e1, hu1, _⟩ := overW_wn hu
  obtain ⟨e2, hu2, _⟩ := overW_wn hv
  obtain ⟨e3, hu3, _⟩ := overW_wn hw
  have q1 := quotient_spec a cu c x.depends ht (wn u) (wn w) hu1 hu3
  have q2 := quotient_spec a cv c x.depends ht (wn v) (wn w) hu2 hu3
  rw [← e1, ← e3] at q1
  rw [← e2, ← e3] at q2
  rw [show (cutN x.depends (wn u) (wn w)).isSome = withinI x.depends u w from rfl] at q1
  rw [show (cutN x.depends (wn v) (wn w)).isSome = withinI x.depends v w from rfl] at q2
  refine walk (fun _ => false) mixed Go.Proofs.Tryz.func72 rfl rfl rfl (by kernel_rfl) rfl (by simp) (by kernel_rfl) ?_
  simp
  refine ⟨_, ties_spec a x, ?_⟩
  simp
  refine ⟨_, q1, ?_⟩
  simp
  refine ⟨_, ties_spec a x, ?_⟩
  simp
  refine ⟨_, q2, ?_⟩
  cases withinI x.depends u w <;> simp
theorem structure1_spec (a b c cu cv : Bool) (x : AlphaV) (ht : TOk x.depends) (rs : List (List Int)) (hl : rs.length ≤ 2000000) (hr : ∀ r ∈ rs, overW x.depends.length r = true) (u v : List Int) (hu : overW x.depends.length u = true) (hv : overW x.depends.length v = true) :
    ACalls1 Tryz.prog 70 [.sl 1 cu (ints u), .sl 1 cv (ints v), .ip [.sl 1 b (srows c rs)], .ip [iv x.letters, .sl 1 a (ints x.depends)]] (bv (togQ x.depends rs u v)) := by
  refine walk (fun t => t == 4 || t == 5) mixed Go.Proofs.Tryz.func70 rfl rfl rfl (by kernel_rfl) rfl (by simp) (by kernel_rfl) ?_
  simp
  refine ⟨_, ContainsFuncR_spec b c rs (by omega) 72 [.ip [iv x.letters, .sl 1 a (ints x.depends)], .ip [.sl 1 cu (ints u)], .ip [.sl 1 cv (ints v)]] (fun w => withinI x.depends u w && withinI x.depends v w) (fun w hw => structure11_spec a c cu cv x ht u v w hu hv (hr w hw)) rfl, ?_⟩
  simp [togQ]
theorem StructureOfTraces_spec (a b c : Bool) (x : AlphaV) (hx : I64 x.letters) (hd : Fits x.depends) (rs : List (List Int)) (hl : rs.length ≤ 2000000) (hr : ∀ r ∈ rs, Fits r) :
    ACalls1 Tryz.prog 14 [alphaSl a x, .sl 1 b (srows c rs)] (.tup [strucOw false false false (structV x rs).1, iv (structV x rs).2]) := by
  refine walk (fun t => t == 2 || t == 3 || t == 2029 || t == 1027) mixed Go.Proofs.Tryz.func14 rfl rfl rfl (by kernel_rfl) rfl (by simp) (by kernel_rfl) ?_
  simp
  refine ⟨_, IsFinite_spec a b c x hx hd rs hl hr, ?_⟩
  unfold structV
  cases hfin : isFin x rs
  · simp
  · obtain ⟨hal, hov, h40⟩ := isFin_rows hfin
    have hT := symT_of hal
    simp
    refine awp_loop2 [2, 3, 4, 15, 16] [4] (fun k : Nat => [(17, iv k), (6, .ref 200)]) (fun k => [(200, .own 1 true (srows true (primesA x.depends rs k)))]) (fun k => k ≤ rs.length) (fun k => rs.length - k) 0 (weak_mk (fun t => if t = 200 then some 14 else some t) (by simp) (by simp [primesA]) rfl) (by simp) ?_
    intro k hk
    obtain ⟨hA1, hA2⟩ := primesA_ok hT hov k hk
    by_cases hlk : k < rs.length
    · have how := hov _ (nthR_mem hlk)
      have hsu := primesA_succ (t := x.depends) hlk
      have hPo := primesOf_spec a c x hal _ how
      obtain ⟨hI1, _⟩ := primesI_ok hT how
      have h24 := overW_len how
      generalize primesI x.depends (nthR rs k) = Q at *
      generalize primesA x.depends rs k = A at *
      simp [hlk]
      refine ⟨_, hPo, ?_⟩
      simp
      repeat (refine And.intro (by first | omega | exact ⟨by kernel_rfl, by kernel_rfl⟩) ?_)
      try simp [wrap_id ((k : Int) + 1) (by omega) (by omega)]
      exact Round.mk (k + 1) (weak_mk (fun t => if t = 200 then some 25 else some t) (by simp) (by simp [hsu, srows_append]) rfl) hlk (by omega)
    · obtain rfl : k = rs.length := by omega
      have hsame := primes_same hT hov
      have hPS := primesS_ok hT.ok hov rs.length (Nat.le_refl _)
      have hin := inOrder_spec true true (primesA x.depends rs rs.length) (by omega) (fun r hr => by have := overW_len (hA2 r hr).1.1; unfold Fits; omega)
      rw [hsame] at hin
      have hlast : ∀ r ∈ primesS x.depends rs rs.length, LastOk x.depends r := fun r hr => by
        obtain ⟨j, hj, i, hi, rfl⟩ := (primesS_iff _ (Nat.le_refl _)).1 hr
        exact prime_last hT (hov _ (nthR_mem hj)) hi
      have hG : structG x.depends (togQ x.depends rs) (primesS x.depends rs rs.length) = (if (primesS x.depends rs rs.length).length ≤ 16 then (structP x.depends rs (primesS x.depends rs rs.length), 0) else (⟨[], [], []⟩, 3)) := rfl
      generalize primesS x.depends rs rs.length = P at *
      have hS := structureOf_spec a true true x hT.ok P (by have := hPS.len; omega) (fun r hr => ⟨hPS.ok r hr, hlast r hr⟩) 70 [.ip [.sl 1 b (srows c rs)], .ip [iv x.letters, .sl 1 a (ints x.depends)]] (togQ x.depends rs)
        (fun u hu v hv => structure1_spec a b c true true x hT.ok rs hl hov u v (hPS.ok u hu).1 (hPS.ok v hv).1) rfl
      rw [hG] at hS
      simp
      refine ⟨_, _, hin, ?_⟩
      simp
      refine ⟨_, hS, ?_⟩
      by_cases h16 : P.length ≤ 16
      · simp [h16]
        first | refine ⟨⟨by kernel_rfl, by kernel_rfl⟩, ?_⟩ | exact ⟨by kernel_rfl, by kernel_rfl⟩
      · simp [h16]
        first | refine ⟨⟨by kernel_rfl, by kernel_rfl⟩, ?_⟩ | exact ⟨by kernel_rfl, by kernel_rfl⟩
end Go.AM
