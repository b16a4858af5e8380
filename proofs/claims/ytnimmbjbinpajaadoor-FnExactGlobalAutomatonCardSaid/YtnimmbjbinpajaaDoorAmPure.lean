/-
  The abstract machine: statements whose order is open and whose operations only read: the text's order is walked, and a check of the text alone says that this serves.
-/
import Derived.Test.YtnimmbjbinpajaaDoorAmDraw
set_option linter.unusedVariables false
set_option linter.unusedSimpArgs false
namespace Go.AM

/-- What an operation waits for, as a mask of places. -/
def maskOf (prev : List Nat) (o : Oper) : Nat := o.after.toList.foldl (fun m e => bif Region.binds .any e then (m ||| 2 ^ e.on) ||| prev.getD e.on 0 else m) 0
def masksOf : List Nat → List Oper → List Nat
  | prev, [] => prev
  | prev, o :: rest => masksOf (prev ++ [maskOf prev o]) rest

/-- Each two operations wait for one another, or are apart; the text's order is one of the orders. -/
def statB (ops : Array Oper) : Bool := textB ops &&
  let ms := masksOf [] ops.toList
  ms.length == ops.size && (List.range ops.size).all fun i => (List.range ops.size).all fun j => i == j || (ms.getD j 0).testBit i || (ms.getD i 0).testBit j ||
    (match ops[i]?, ops[j]? with | some x, some y => x.apart ops y && y.apart ops x | _, _ => false)

/-- Operations that make nothing and write nothing, as far as the text tells. -/
def plainOp (o : Oper) : Bool := match o.op with
  | .alloc _ => false
  | .box _ _ => false
  | .store _ _ _ => false
  | .makeSlice _ _ _ => false
  | .buildSlice _ _ _ => false
  | .makeMap _ _ => false
  | .mapUpdate _ _ _ _ => false
  | .call { callee := .builtin .append, args := _, argTypes := _ } => false
  | _ => true

def drawP (P : Program) (fz : Nat → Bool) (all : Array Oper) : List Oper → St → (St → Prop) → Prop
  | [], st, K => K st
  | o :: rest, st, K => gdA all o st (fun st => ∃ e, opA P fz o st (fun e' => e' = e) ∧ (e.news = [] ∧ e.ws = [] ∧ ∀ d, o.dst = some d → d < st.n) ∧ drawP P fz all rest (st.app o.dst e) K)
      (fun st => (∀ d, o.dst = some d → d < st.n) ∧ drawP P fz all rest (st.put o.dst (.val undef)) K)

/-- By kind; where `fz` holds at the first slot plus 1000: with all records. -/
def drawG (P : Program) (fz : Nat → Bool) (ops : Array Oper) (st : St) (K : St → Prop) : Prop := bif ops.toList.all plainOp && !fz (firstDst ops.toList + 1000) then drawP P fz ops ops.toList st K else drawA P fz ops st K
def drawR (ops : Array Oper) : Bool := !ops.toList.all plainOp || statB ops

section
variable {P : Program} {fz : Nat → Bool}

theorem ancB_mono {ops : Array Oper} : ∀ {f f' i j : Nat}, f ≤ f' → ancB ops f i j = true → ancB ops f' i j = true
  | 0, _, _, _, _, h => by simp [ancB] at h
  | f + 1, f' + 1, i, j, hf, h => by
    simp only [ancB] at h ⊢
    split at h
    · cases h
    · simp only [Array.any_eq_true'] at h ⊢
      obtain ⟨e, he, hb⟩ := h
      refine ⟨e, he, ?_⟩
      simp only [Bool.and_eq_true, Bool.or_eq_true] at hb ⊢
      exact ⟨hb.1, hb.2.imp id (ancB_mono (by omega))⟩

/-- The masks tell no more than what is waited for. -/
def MaskOk (ops : Array Oper) (ms : List Nat) : Prop := ∀ j, j < ms.length → ∀ i, (ms.getD j 0).testBit i = true → ancB ops (j + 1) i j = true

theorem maskFold {prev : List Nat} {i : Nat} : ∀ (l : List Edge) (m : Nat), (l.foldl (fun m e => bif Region.binds .any e then (m ||| 2 ^ e.on) ||| prev.getD e.on 0 else m) m).testBit i = true →
    m.testBit i = true ∨ ∃ e ∈ l, Region.binds .any e = true ∧ (e.on = i ∨ (prev.getD e.on 0).testBit i = true)
  | [], m, h => .inl h
  | e :: l, m, h => by
    rcases maskFold l _ h with h | ⟨e', he, hb, h⟩
    · simp only at h
      cases hb : Region.binds .any e with
      | false => rw [hb] at h; exact .inl h
      | true =>
        rw [hb, cond_true, Nat.testBit_or, Nat.testBit_or, Bool.or_eq_true, Bool.or_eq_true] at h
        rcases h with (h | h) | h
        · exact .inl h
        · right
          refine ⟨e, by simp, hb, .inl ?_⟩
          rw [Nat.testBit_two_pow] at h
          simpa using h
        · exact .inr ⟨e, by simp, hb, .inr h⟩
    · exact .inr ⟨e', by simp [he], hb, h⟩

theorem masks_ok {ops : Array Oper} (ht : textB ops = true) : ∀ (rest : List Oper) (prev : List Nat), (∀ k, rest[k]? = ops[prev.length + k]?) → MaskOk ops prev → MaskOk ops (masksOf prev rest)
  | [], prev, _, h => h
  | o :: rest, prev, hr, h => by
    refine masks_ok ht rest _ (fun k => ?_) ?_
    · have := hr (k + 1)
      simp only [List.getElem?_cons_succ] at this
      rw [this]; simp; congr 1; omega
    · have ho : ops[prev.length]? = some o := by have := hr 0; simpa using this.symm
      intro j hj i hb
      by_cases hlt : j < prev.length
      · refine h j hlt i ?_
        rwa [List.getD_eq_getElem?_getD, List.getElem?_append_left hlt, ← List.getD_eq_getElem?_getD] at hb
      · have e : j = prev.length := by simp at hj; omega
        subst e
        rw [List.getD_eq_getElem?_getD, List.getElem?_append_right (Nat.le_refl _)] at hb
        simp only [Nat.sub_self, List.getElem?_cons_zero, Option.getD_some] at hb
        rcases maskFold _ _ hb with hz | ⟨e, he, hbd, hx⟩
        · simp at hz
        · have hon := textB_spec ht ho e (by simpa using he) hbd
          simp only [ancB, ho, Array.any_eq_true']
          refine ⟨e, by simpa using he, ?_⟩
          simp only [hbd, Bool.true_and, Bool.or_eq_true, beq_iff_eq]
          exact hx.imp id fun hx => ancB_mono (by omega) (h e.on hon i hx)

theorem dis_nil_l (l : List Nat) : dis [] l = true := rfl

theorem all_zipIdx {α : Type} {l : List α} {n : Nat} {p : α × Nat → Bool} (h : ∀ i x, l[i]? = some x → p (x, n + i) = true) : (l.zipIdx n).all p = true := by
  rw [List.all_eq_true]
  rintro ⟨x, k⟩ hm
  rw [List.mem_zipIdx_iff_le_and_getElem?_sub] at hm
  have := h (k - n) x hm.2
  rwa [show n + (k - n) = k by omega] at this

theorem compat_of_stat {ops : Array Oper} (hs : statB ops = true) {recs : List Rec} (hl : recs.length = ops.size) (hr : ∀ r ∈ recs, r.e.news = [] ∧ r.e.ws = []) : compat ops recs = true := by
  unfold statB at hs
  simp only [Bool.and_eq_true, beq_iff_eq] at hs
  obtain ⟨ht, hml, hall⟩ := hs
  have hmk : MaskOk ops (masksOf [] ops.toList) := masks_ok ht ops.toList [] (fun k => by simp) (fun j hj => by simp at hj)
  unfold compat
  simp only [Bool.and_eq_true, beq_iff_eq]
  refine ⟨hl, all_zipIdx fun i r hi => ?_⟩
  refine all_zipIdx fun j s hj => ?_
  have hri := hr r (List.mem_of_getElem? hi)
  have hsj := hr s (List.mem_of_getElem? hj)
  have hil : i < ops.size := by rw [← hl]; exact (List.getElem?_eq_some_iff.1 hi).1
  have hjl : j < ops.size := by rw [← hl]; exact (List.getElem?_eq_some_iff.1 hj).1
  have key := List.all_eq_true.1 (List.all_eq_true.1 hall i (by simpa using hil)) j (by simpa using hjl)
  have l1 : lateB r s = true := by simp [lateB, Rec.news, hsj.1, dis]
  have l2 : lateB s r = true := by simp [lateB, Rec.news, hri.1, dis]
  simp only [Nat.zero_add, Bool.or_eq_true, beq_iff_eq] at key ⊢
  cases h1 : ancB ops ops.size i j with
  | true => simp [l1]
  | false =>
    cases h2 : ancB ops ops.size j i with
    | true => simp [l2]
    | false =>
      rcases key with ((h | h) | h) | h
      · exact .inl h
      · have := ancB_mono (show j + 1 ≤ ops.size by omega) (hmk j (by omega) i h)
        rw [this] at h1; cases h1
      · have := ancB_mono (show i + 1 ≤ ops.size by omega) (hmk i (by omega) j h)
        rw [this] at h2; cases h2
      · right
        simp only [cond_false, pairB, Bool.and_eq_true]
        refine ⟨⟨⟨⟨⟨?_, ?_⟩, ?_⟩, ?_⟩, ?_⟩, ?_⟩
        · rw [Array.getElem?_eq_getElem hil, Array.getElem?_eq_getElem hjl] at h ⊢
          simpa using h
        all_goals simp [Rec.chg, Rec.news, Rec.ment, hri.1, hri.2, hsj.1, hsj.2, dis]

theorem drawP_ops {ops : Array Oper} {st₀ : St} {K : St → Prop} (hs : statB ops = true) : ∀ {rest : List Oper} {recs : List Rec} {st : St}, recs.length + rest.length = ops.size → (∀ r ∈ recs, r.e.news = [] ∧ r.e.ws = []) →
    drawP P fz ops rest st K → drawOps P fz ops st₀ rest recs st K
  | [], recs, st, hl, hr, h => by
    refine ⟨⟨compat_of_stat hs (by simpa using hl) hr, ?_⟩, fun r hm p hp => ?_, h⟩
    · unfold statB at hs
      simp only [Bool.and_eq_true] at hs
      exact hs.1
    · rw [(hr r hm).1] at hp; cases hp
  | o :: rest, recs, st, hl, hr, h => by
    simp only [drawP] at h
    simp only [drawOps]
    have yes : ∀ s, (∃ e, opA P fz o s (fun e' => e' = e) ∧ (e.news = [] ∧ e.ws = [] ∧ ∀ d, o.dst = some d → d < s.n) ∧ drawP P fz ops rest (s.app o.dst e) K) →
        ∃ e, opA P fz o s (fun e' => e' = e) ∧ e.okD s o.dst ∧ drawOps P fz ops st₀ rest (recs ++ [⟨looks s o, e⟩]) (s.app o.dst e) K := by
      rintro s ⟨e, h1, ⟨hn, hw, hd⟩, h2⟩
      refine ⟨e, h1, ⟨hd, ⟨by rw [hn]; exact List.nodup_nil, ⟨fun (p : Nat × AV) hp => by (rw [hn] at hp; cases hp), fun (p : Nat × AV) hp => by (rw [hn] at hp; cases hp)⟩⟩, fun (p : Nat × AV) hp => by (rw [hn] at hp; cases hp)⟩, drawP_ops hs (by simp at hl ⊢; omega) ?_ ?_⟩
      · intro r hm
        rcases List.mem_append.1 hm with hm | hm
        · exact hr r hm
        · simp at hm; subst hm; exact ⟨hn, hw⟩
      · exact h2
    have no : ∀ s : St, ((∀ d, o.dst = some d → d < s.n) ∧ drawP P fz ops rest (s.put o.dst (.val undef)) K) →
        (∀ d, o.dst = some d → d < s.n) ∧ drawOps P fz ops st₀ rest (recs ++ [⟨[], { val := .val undef }⟩]) (s.put o.dst (.val undef)) K := by
      rintro s ⟨h1, h2⟩
      refine ⟨h1, drawP_ops hs (by simp at hl ⊢; omega) ?_ h2⟩
      intro r hm
      rcases List.mem_append.1 hm with hm | hm
      · exact hr r hm
      · simp at hm; subst hm; exact ⟨rfl, rfl⟩
    unfold gdA at h ⊢
    split
    · rename_i hg
      simp only [hg] at h
      exact yes st h
    · rename_i j b hg
      simp only [hg] at h
      split
      case h_2 hd => simp only [hd] at h
      rename_i g hd
      simp only [hd] at h
      split
      case h_3 hx1 hx2 =>
        split at h
        · rename_i c hc; exact absurd hc (hx1 c)
        · rename_i c hc; exact absurd hc (hx2 c)
        · exact h
      case h_2 hx =>
        simp only [hx] at h
        exact no _ h
      rename_i x hx
      simp only [hx] at h
      exact ⟨fun e => yes _ (h.1 e), fun e => no _ (h.2 e)⟩

theorem drawG_ok (hm : P.follows .mixedOrders = true) {ops : Array Oper} (hR : drawR ops = true) (c : Ctx P) (id : Nat) (K : St → Prop) (st : St) (a : Act) (w : World) (Q : Exit → Act → World → Prop) (hQ : ∀ st a w, StRel c st a w → K st → Q .normal a w)
    (h : StRel c st a w) (hK : drawG P fz ops st K) : (Code.region id ops true).wp P Q a w := by
  unfold drawG at hK
  unfold drawR at hR
  cases hp : ops.toList.all plainOp with
  | false => rw [hp] at hK; exact draw_ok hm c id ops K st a w Q hQ h hK
  | true =>
    rw [hp] at hK hR
    cases hz : fz (firstDst ops.toList + 1000) with
    | true => rw [hz] at hK; exact draw_ok hm c id ops K st a w Q hQ h hK
    | false =>
      rw [hz] at hK
      exact draw_ok hm c id ops K st a w Q hQ h (drawP_ops (by simpa using hR) (by simp) (fun r hm => by cases hm) hK)
end
end Go.AM
