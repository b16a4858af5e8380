/-
  The abstract machine: how a walk is reckoned.
-/
import Derived.Test.YtnimmbjbinpajaaDoorAmOut
set_option linter.unusedVariables false
set_option linter.unusedSimpArgs false
namespace Go.AM

/-! ### Saying less of a state -/
/-- `x`, with names turned by `ρ` (`none`: a nil slice), says no less than `y`. -/
def wk1 (ρ : Nat → Option Nat) : AV → AV → Prop
  | _, .junk => True
  | .ref a, .ref b => ρ b = some a
  | .val v, .ref b => v = nilSlice ∧ ρ b = none
  | .pt a i, .pt b j => ρ b = some a ∧ i = j
  | .sl sz nn l, .sl sz' nn' l' => sz = sz' ∧ l = l' ∧ (nn' = true → nn = true)
  | .val v, .sl _ nn' l' => v = nilSlice ∧ l' = [] ∧ nn' = false
  | .val v, .val v' => v = v'
  | .ip l, .ip l' => l = l'
  | .fn f l, .fn f' l' => f = f' ∧ l = l'
  | .fb f l, .fb f' l' => f = f' ∧ l = l'
  | _, _ => False
def wkL (ρ : Nat → Option Nat) : List AV → List AV → Prop
  | [], [] => True
  | x :: xs, y :: ys => wk1 ρ x y ∧ wkL ρ xs ys
  | _, _ => False
def wk (ρ : Nat → Option Nat) : AV → AV → Prop
  | .agg l, .agg l' => wkL ρ l l'
  | .tup l, .tup l' => wkL ρ l l'
  | x, y => wk1 ρ x y
/-- The rows but the last; the last one. -/
def initA (l : List AV) : List AV := l.dropLast
def lastA (l : List AV) : AV := l.getLastD .junk
theorem initA_snoc (l : List AV) (x : AV) : initA (l ++ [x]) = l := by simp [initA]
theorem lastA_snoc (l : List AV) (x : AV) : lastA (l ++ [x]) = x := by simp [lastA, List.getLastD_eq_getLast?]
theorem initA_one (x : AV) : initA [x] = [] := rfl
theorem lastA_one (x : AV) : lastA [x] = x := rfl
theorem init_last {l : List AV} (h : l ≠ []) : l = initA l ++ [lastA l] := by
  have e : lastA l = l.getLast h := by simp [lastA, List.getLastD_eq_getLast?, List.getLast?_eq_some_getLast h]
  rw [e]; exact (List.dropLast_concat_getLast h).symm
def wkN (ρ : Nat → Option Nat) : AV → AV → Prop
  | .own sz nn l, .own sz' nn' l' => sz = sz' ∧ l = l' ∧ (nn' = true → nn = true)
  | .opw sz l, .opw sz' l' => sz = sz' ∧ initA l = initA l' ∧ nrfL (initA l) = true ∧ l ≠ [] ∧ l' ≠ [] ∧ cpy (lastA l) = true ∧ wk1 ρ (lastA l) (lastA l')
  | .box l, .box l' => wkL ρ l l'
  | .mp l, .mp l' => l = l'
  | _, _ => False

/-- The headers under the new names. -/
def hdrOf (ρ : Nat → Option Nat) (hdr : Nat → Option Value) (nm : Nat) : Option Value := match ρ nm with
  | some k => hdr k
  | none => some nilSlice

theorem wk1_rep {w : World} {I : Nat → Prop} {hdr : Nat → Option Value} {ρ : Nat → Option Nat} {x y : AV} {v : Value} (h : wk1 ρ x y) (hx : Rep w I hdr x [] v) : Rep w I (hdrOf ρ hdr) y [] v := by
  unfold wk1 at h
  split at h
  · simp [Rep]
  · simp only [Rep] at hx ⊢
    exact ⟨trivial, by unfold hdrOf; rw [h]; exact hx.2⟩
  · simp only [Rep] at hx ⊢
    exact ⟨trivial, by unfold hdrOf; rw [h.2, hx.2, h.1]⟩
  · simp only [Rep] at hx ⊢
    obtain ⟨_, u, a, h1, h2, h3⟩ := hx
    exact ⟨trivial, u, a, by unfold hdrOf; rw [h.1]; exact h1, h2, by rw [← h.2]; exact h3⟩
  · obtain ⟨rfl, rfl, hn⟩ := h
    simp only [Rep] at hx ⊢
    refine ⟨trivial, hx.2.imp (fun h => ⟨h.1, h.2.1, ?_⟩) ?_⟩
    · rename_i nn _ nn'
      cases nn' with
      | false => rfl
      | true => have := hn rfl; rw [h.2.2] at this; cases this
    · exact id
  · obtain ⟨rfl, rfl, rfl⟩ := h
    simp only [Rep] at hx ⊢
    exact ⟨trivial, .inl ⟨hx.2, trivial, trivial⟩⟩
  · subst h; simpa only [Rep] using hx
  · subst h; simpa only [Rep] using hx
  · obtain ⟨rfl, rfl⟩ := h; simpa only [Rep] using hx
  · obtain ⟨rfl, rfl⟩ := h; simpa only [Rep] using hx
  · exact h.elim

theorem wkL_rep {w : World} {I : Nat → Prop} {hdr : Nat → Option Value} {ρ : Nat → Option Nat} : ∀ {l l' : List AV} {vs : List Value}, wkL ρ l l' → RepL w I hdr l [] vs → RepL w I (hdrOf ρ hdr) l' [] vs
  | [], [], vs, _, hl => by simpa [RepL] using hl
  | x :: xs, y :: ys, vs, h, hl => by
    simp only [wkL] at h
    simp only [RepL] at hl ⊢
    obtain ⟨B₁, B₂, v, vs', e, rfl, h1, h2⟩ := hl
    obtain ⟨rfl, rfl⟩ : B₁ = [] ∧ B₂ = [] := by simpa using e.symm
    exact ⟨[], [], v, vs', rfl, rfl, wk1_rep h.1 h1, wkL_rep h.2 h2⟩
  | [], _ :: _, _, h, _ => by simp [wkL] at h
  | _ :: _, [], _, h, _ => by simp [wkL] at h

theorem wk_rep {w : World} {I : Nat → Prop} {hdr : Nat → Option Value} {ρ : Nat → Option Nat} {x y : AV} {v : Value} (h : wk ρ x y) (hx : Rep w I hdr x [] v) : Rep w I (hdrOf ρ hdr) y [] v := by
  unfold wk at h
  split at h
  · simp only [Rep] at hx ⊢
    obtain ⟨cs, e, hr⟩ := hx
    exact ⟨cs, e, wkL_rep h hr⟩
  · simp only [Rep] at hx ⊢
    obtain ⟨cs, e, hr⟩ := hx
    exact ⟨cs, e, wkL_rep h hr⟩
  · exact wk1_rep h hx

/-- Boxes' cells own nothing by themselves. -/
def boxOk : AV → Bool
  | .box l => l.all cpy
  | _ => true

theorem wkN_rep {w : World} {I : Nat → Prop} {hdr : Nat → Option Value} {ρ : Nat → Option Nat} {x y : AV} {B : List Nat} {v : Value} (h : wkN ρ x y) (hb : boxOk x = true) (hx : Rep w I hdr x B v) : Rep w I (hdrOf ρ hdr) y B v := by
  unfold wkN at h
  split at h
  · obtain ⟨rfl, rfl, hn⟩ := h
    simp only [Rep] at hx ⊢
    refine hx.imp (fun h => ⟨h.1, h.2.1, ?_, h.2.2.2⟩) id
    rename_i nn _ nn'
    cases nn' with
    | false => rfl
    | true => have := hn rfl; rw [h.2.2.1] at this; cases this
  · obtain ⟨rfl, hi, hn, h0, h0', hc, hl⟩ := h
    rename_i l l'
    simp only [Rep] at hx ⊢
    obtain ⟨b, n, c, C, ty, B', hv, hB, hC, h1, h2, h3, hr⟩ := hx
    have hlen : l.length = l'.length := by
      rw [init_last h0, init_last h0', hi]; simp
    refine ⟨b, n, c, C, ty, B', hv, hB, hC, by rw [← hlen]; exact h1, h2, h3, ?_⟩
    rw [← hlen]
    generalize List.take l.length C.toList = vs at hr
    rw [init_last h0] at hr
    rw [init_last h0', ← hi]
    obtain ⟨B₁, B₂, rfl, hA, hX⟩ := hr.split
    simp only [RepL] at hX
    obtain ⟨B₃, B₄, u, us, rfl, e, hX, rfl, rfl⟩ := hX
    obtain rfl := cpy_nil hc hX
    have hA' := RepL.nohdr (hdrOf ρ hdr) _ _ _ hn hA
    have hX' := wk1_rep hl hX
    have := hA'.append (l' := [lastA l']) (B' := []) (us' := [u]) (by simp only [RepL]; exact ⟨[], [], u, [], rfl, rfl, hX', rfl, rfl⟩)
    rw [← e, List.take_append_drop] at this
    simpa using this
  · simp only [Rep] at hx ⊢
    obtain ⟨b, C, ty, B', hv, hB, hC, hr⟩ := hx
    have e := RepL.cpy_nil (by simpa [boxOk] using hb) hr
    subst e
    exact ⟨b, C, ty, [], hv, hB, hC, wkL_rep h hr⟩
  · subst h; simpa only [Rep] using hx
  · exact h.elim

theorem asS_at {l : List (Nat × AV)} {t : Nat} : asS l t = .junk ∨ ∃ p ∈ l, p.1 = t ∧ p.2 = asS l t := by
  induction l with
  | nil => exact .inl rfl
  | cons p l ih =>
    obtain ⟨k, y⟩ := p
    simp only [asS]
    split
    · rename_i e; exact .inr ⟨(k, y), by simp, e.symm, rfl⟩
    · rcases ih with h | ⟨q, hq, e⟩
      · exact .inl h
      · exact .inr ⟨q, by simp [hq], e⟩
theorem asO_at {l : List (Nat × AV)} {t : Nat} {x : AV} (h : asO l t = some x) : ∃ p ∈ l, p.1 = t ∧ p.2 = x := by
  induction l with
  | nil => simp [asO] at h
  | cons p l ih =>
    obtain ⟨k, y⟩ := p
    simp only [asO] at h
    split at h
    · rename_i e; cases h; exact ⟨(k, x), by simp, e.symm, rfl⟩
    · obtain ⟨q, hq, e⟩ := ih h
      exact ⟨q, by simp [hq], e⟩

/-- What a node says less: under another name, or a nil slice's. -/
def wkO (ρ : Nat → Option Nat) (ol : List (Nat × AV)) (nm : Nat) (y : AV) : Prop := match ρ nm with
  | some k => match asO ol k with
    | some x => wkN ρ x y ∧ boxOk x = true
    | none => False
  | none => match y with
    | .own _ nn l => nn = false ∧ l = []
    | _ => False

def injB (ρ : Nat → Option Nat) : List (Nat × AV) → Bool
  | [] => true
  | p :: l => l.all (fun q => match ρ p.1, ρ q.1 with | some a, some b => a != b || p.1 == q.1 | _, _ => true) && injB ρ l

theorem injB_spec {ρ : Nat → Option Nat} : ∀ {l : List (Nat × AV)}, injB ρ l = true → ∀ p, p ∈ l → ∀ q, q ∈ l → ∀ a, ρ p.1 = some a → ρ q.1 = some a → p.1 = q.1
  | [], _, p, hp, _, _, _, _, _ => by cases hp
  | r :: l, h, p, hp, q, hq, a, h1, h2 => by
    simp only [injB, Bool.and_eq_true, List.all_eq_true] at h
    rcases List.mem_cons.1 hp with rfl | hp <;> rcases List.mem_cons.1 hq with rfl | hq
    · rfl
    · have := h.1 q hq
      rw [h1, h2] at this
      simpa using this
    · have := h.1 p (by assumption)
      rw [h1, h2] at this
      have h3 : q.1 = p.1 := by simpa using this
      exact h3.symm
    · exact injB_spec h.2 p hp q hq a h1 h2

/-- Pinned names keep their names. -/
def pinρ (ρ : Nat → Option Nat) (nm : Nat) : Option Nat := if 1000000000 ≤ nm then some nm else ρ nm

theorem weak_mk {l ol l' ol' : List (Nat × AV)} {n : Nat} (ρ₀ : Nat → Option Nat) (hs : ∀ p, p ∈ l' → wk (pinρ ρ₀) (asS l p.1) p.2) (ho : ∀ p, p ∈ ol' → wkO (pinρ ρ₀) ol p.1 p.2) (hi : injB (pinρ ρ₀) ol' = true) :
    Weak ⟨asS l, asO ol, n⟩ ⟨asS l', asO ol', n⟩ := by
  generalize hρ : pinρ ρ₀ = ρ at hs ho hi
  rintro P c a w ⟨I, hdr, F, h⟩
  have old : ∀ nm y, asO ol' nm = some y → (∃ k x, ρ nm = some k ∧ asO ol k = some x ∧ wkN ρ x y ∧ boxOk x = true) ∨ (ρ nm = none ∧ ∃ sz, y = .own sz false []) := by
    intro nm y hy
    obtain ⟨p, hp, rfl, rfl⟩ := asO_at hy
    have := ho p hp
    unfold wkO at this
    split at this
    · rename_i k hk
      split at this
      · rename_i x hx
        exact .inl ⟨k, x, hk, hx, this⟩
      · exact this.elim
    · rename_i hk
      split at this
      · rename_i sz nn m e
        obtain ⟨rfl, rfl⟩ := this
        exact .inr ⟨hk, sz, e⟩
      · exact this.elim
  have name : ∀ nm, asO ol' nm ≠ none → ∃ p, p ∈ ol' ∧ p.1 = nm := by
    intro nm hn
    obtain ⟨y, hy⟩ := Option.ne_none_iff_exists'.1 hn
    obtain ⟨p, hp, e, _⟩ := asO_at hy
    exact ⟨p, hp, e⟩
  refine ⟨I, hdrOf ρ hdr, fun nm => match ρ nm with | some k => F k | none => [], h.hI0, h.hIlt, h.hInew, h.fr, h.size, h.os, h.tape, h.out, h.df, h.n, fun t => ?_, ?_, ?_, ?_, ?_, ?_, ?_, fun nm v hv => by
    unfold hdrOf; rw [show ρ nm = some nm by rw [← hρ]; unfold pinρ; rw [if_pos (c.hpin nm v hv)]]; exact h.pin nm v hv⟩
  · rcases asS_at (l := l') (t := t) with e | ⟨p, hp, e1, e2⟩
    · show Rep w I _ (asS l' t) [] _
      rw [e]; simp [Rep]
    · have := hs p hp
      rw [e1, e2] at this
      exact wk_rep this (h.sl t)
  · intro nm u hu
    unfold hdrOf at hu
    split at hu
    · exact h.hone _ u hu
    · cases hu; rfl
  · intro nm y hy
    rcases old nm y hy with ⟨k, x, hk, hx, hw, hb⟩ | ⟨hk, sz, rfl⟩
    · obtain ⟨u, hu, hr⟩ := h.ob k x hx
      refine ⟨u, by unfold hdrOf; rw [hk]; exact hu, ?_⟩
      simp only [hk]
      exact wkN_rep hw hb hr
    · refine ⟨nilSlice, by unfold hdrOf; rw [hk], ?_⟩
      simp [hk, Rep]
  · intro nm hy
    obtain ⟨y, hy⟩ := Option.ne_none_iff_exists'.1 hy
    rcases old nm y hy with ⟨k, x, hk, hx, _, _⟩ | ⟨hk, sz, rfl⟩
    · simp only [hk]
      exact h.nd k (by rw [show (St.mk (asS l) (asO ol) n).o k = asO ol k from rfl, hx]; simp)
    · simp only [hk]; exact List.nodup_nil
  · intro nm nm' hne hy hy' b hb hb'
    obtain ⟨y, hyy⟩ := Option.ne_none_iff_exists'.1 hy
    obtain ⟨y', hyy'⟩ := Option.ne_none_iff_exists'.1 hy'
    rcases old nm y hyy with ⟨k, x, hk, hx, _, _⟩ | ⟨hk, _, _⟩
    · rcases old nm' y' hyy' with ⟨k', x', hk', hx', _, _⟩ | ⟨hk', _, _⟩
      · simp only [hk] at hb
        simp only [hk'] at hb'
        have hkk : k ≠ k' := by
          intro e
          subst e
          obtain ⟨p, hp, e1⟩ := name nm hy
          obtain ⟨q, hq, e2⟩ := name nm' hy'
          have := injB_spec hi p hp q hq k (by rw [e1]; exact hk) (by rw [e2]; exact hk')
          exact hne (by rw [← e1, ← e2]; exact this)
        exact h.dj k k' hkk (by rw [show (St.mk (asS l) (asO ol) n).o k = asO ol k from rfl, hx]; simp) (by rw [show (St.mk (asS l) (asO ol) n).o k' = asO ol k' from rfl, hx']; simp) b hb hb'
      · simp only [hk'] at hb'; cases hb'
    · simp only [hk] at hb; cases hb
  · intro nm hy b hb
    obtain ⟨y, hyy⟩ := Option.ne_none_iff_exists'.1 hy
    rcases old nm y hyy with ⟨k, x, hk, hx, _, _⟩ | ⟨hk, _, _⟩
    · simp only [hk] at hb
      exact h.oi k (by rw [show (St.mk (asS l) (asO ol) n).o k = asO ol k from rfl, hx]; simp) b hb
    · simp only [hk] at hb; cases hb
  · intro nm hy b hb
    obtain ⟨y, hyy⟩ := Option.ne_none_iff_exists'.1 hy
    rcases old nm y hyy with ⟨k, x, hk, hx, _, _⟩ | ⟨hk, _, _⟩
    · simp only [hk] at hb
      exact h.oo k (by rw [show (St.mk (asS l) (asO ol) n).o k = asO ol k from rfl, hx]; simp) b hb
    · simp only [hk] at hb; cases hb


/-! ### A row lies open under a name of its own -/
theorem split_row {w : World} {I : Nat → Prop} {hdr : Nat → Option Value} {Al Cl : List AV} {X : AV} {B : List Nat} {vs : List Value} (h : RepL w I hdr (Al ++ X :: Cl) B vs) :
    ∃ BA BX BC va u vc, B = BA ++ BX ++ BC ∧ vs = va ++ u :: vc ∧ RepL w I hdr Al BA va ∧ Rep w I hdr X BX u ∧ RepL w I hdr Cl BC vc := by
  obtain ⟨BA, B2, rfl, h1, h2⟩ := h.split
  simp only [RepL] at h2
  obtain ⟨BX, BC, u, vc, rfl, e, h3, h4⟩ := h2
  refine ⟨BA, BX, BC, _, u, vc, by rw [List.append_assoc], ?_, h1, h3, h4⟩
  rw [← e, List.take_append_drop]
theorem join_row {w : World} {I : Nat → Prop} {hdr : Nat → Option Value} {Al Cl : List AV} {X : AV} {BA BX BC : List Nat} {va vc : List Value} {u : Value} (h1 : RepL w I hdr Al BA va) (h2 : Rep w I hdr X BX u) (h3 : RepL w I hdr Cl BC vc) :
    RepL w I hdr (Al ++ X :: Cl) (BA ++ BX ++ BC) (va ++ u :: vc) := by
  rw [List.append_assoc]
  refine h1.append ?_
  simp only [RepL]
  exact ⟨BX, BC, u, vc, rfl, rfl, h2, h3⟩
theorem weak_open {l ol : List (Nat × AV)} {n : Nat} (nm d : Nat) {sz s : Nat} {nn nn' : Bool} {r : List AV} (Al Cl : List AV) (h1 : asO ol nm = some (.own sz nn (Al ++ .own s nn' r :: Cl))) (hd : asO ol d = none)
    (hf : d < 1000000000 ∧ (l.all fun p => noR d p.2) = true ∧ (ol.all fun p => noR d p.2) = true) :
    Weak ⟨asS l, asO ol, n⟩ ⟨asS l, asO ((nm, .opw sz (Al ++ .ref d :: Cl)) :: (d, .own s nn' r) :: ol), n⟩ := by
  rintro P c a w ⟨I, hdr, F, h⟩
  have hne : nm ≠ d := fun e => by rw [e, hd] at h1; cases h1
  have hno : asO ol nm ≠ none := by rw [h1]; simp
  obtain ⟨v, hv, hr⟩ := h.ob nm _ h1
  simp only [Rep] at hr
  rcases hr with ⟨_, e, _⟩ | ⟨b, m, cp, C, ty, B', rfl, hB, hC, hsz, hnc, hcC, hr⟩
  · simp at e
  obtain ⟨BA, BX, BC, va, u, vc, rfl, hvs, hA, hX, hCl⟩ := split_row hr
  have hnd := h.nd nm hno
  rw [hB] at hnd
  have hndB := List.nodup_cons.1 hnd
  have hnd2 := List.nodup_append.1 hndB.2
  have hnd3 := List.nodup_append.1 hnd2.1
  have hu : u.oneCell' = true := one_cell (hdr := fun _ => none) (fun _ _ h => by cases h) (x := .own s nn' r) rfl hX
  have hlen : (Al ++ AV.own s nn' r :: Cl).length = (Al ++ AV.junk :: Cl).length := by simp
  have hlen' : (Al ++ AV.own s nn' r :: Cl).length = (Al ++ AV.ref d :: Cl).length := by simp
  have nodupAC : (b :: (BA ++ [] ++ BC)).Nodup := by
    refine List.nodup_cons.2 ⟨fun hb => hndB.1 (by simp at hb ⊢; rcases hb with hb | hb <;> simp [hb]), ?_⟩
    rw [List.append_nil]
    exact List.nodup_append.2 ⟨hnd3.1, hnd2.2.1, fun x hx y hy => hnd2.2.2 x (by simp [hx]) y hy⟩
  have t1 := h.turn (x' := .opw sz (Al ++ .junk :: Cl)) (B' := b :: (BA ++ [] ++ BC)) (w' := w) h1 hv
    (by
      simp only [Rep]
      refine ⟨b, m, cp, C, ty, BA ++ [] ++ BC, rfl, rfl, hC, by rw [← hlen]; exact hsz, hnc, hcC, ?_⟩
      rw [← hlen, hvs]
      exact join_row (repL_nohdr_of_none hdr hA) (by simp [Rep]) (repL_nohdr_of_none hdr hCl))
    (fun _ _ _ => rfl) (Nat.le_refl _) rfl rfl (by first | exact ⟨rfl, Nat.le_refl _⟩ | exact ⟨rfl, Nat.le_succ _⟩) nodupAC (fun x hx => .inl (by rw [hB]; simp at hx ⊢; rcases hx with hx | hx | hx <;> simp [hx]))
  have hfree : St.free (St.node ⟨asS l, asO ol, n⟩ nm (some (.opw sz (Al ++ .junk :: Cl)))) d := by
    obtain ⟨f1, f2, f3⟩ := hf
    rw [List.all_eq_true] at f2 f3
    refine ⟨f1, fun t => ?_, fun k x hx => ?_⟩
    · show noR d (asS l t) = true
      rcases asS_at (l := l) (t := t) with e | ⟨p, hp, _, e⟩
      · rw [e]; rfl
      · rw [← e]; exact f2 p hp
    · simp only [St.node, upd] at hx
      split at hx
      · cases hx
        simp only [noR]
        have g : ∀ q : List AV, (∀ B vs, RepL w I (fun _ => none) q B vs → noRL d q = true) := fun q B vs hq => noRL_of_nrfL d q (nrfL_of_none q B vs hq)
        have gA := g Al _ _ hA
        have gC := g Cl _ _ hCl
        have app : ∀ q q' : List AV, noRL d q = true → noRL d q' = true → noRL d (q ++ q') = true := by
          intro q q' h1 h2
          induction q with
          | nil => exact h2
          | cons y q ih => simp only [noRL, List.cons_append, Bool.and_eq_true] at h1 ⊢; exact ⟨h1.1, ih h1.2⟩
        exact app _ _ gA (by simp only [noRL, noR, Bool.true_and]; exact gC)
      · obtain ⟨p, hp, _, e⟩ := asO_at hx
        rw [← e]; exact f3 p hp
  have t2 := t1.name hfree (by simp only [St.node, upd]; rw [if_neg (fun e => hne e.symm)]; exact hd) (x := .own s nn' r) (B := BX) (v := u) (rep_nohdr_of_none hdr hX) rfl hu hnd3.2.1
    (fun k hk x hx hxB => by
      by_cases e : k = nm
      · subst e
        rw [upd_same] at hx
        rcases List.mem_cons.1 hx with rfl | hx
        · exact hndB.1 (by simp [hxB])
        · simp at hx
          rcases hx with hx | hx
          · exact hnd3.2.2 x hx x hxB rfl
          · exact hnd2.2.2 x (by simp [hxB]) x hx rfl
      · rw [upd_ne _ _ _ e] at hx
        simp only [St.node, upd] at hk
        rw [if_neg e] at hk
        exact h.dj nm k (fun e' => e e'.symm) hno hk x (by rw [hB]; simp [hxB]) hx)
    (fun x hx => h.oi nm hno x (by rw [hB]; simp [hx])) (fun x hx => h.oo nm hno x (by rw [hB]; simp [hx]))
  have t3 := t2.turn (x' := .opw sz (Al ++ .ref d :: Cl)) (B' := b :: (BA ++ [] ++ BC)) (w' := w) (nm := nm) (x := .opw sz (Al ++ .junk :: Cl)) (v := .slice (some ⟨b, 0, none⟩) m cp)
    (by simp only [St.node, upd]; rw [if_neg hne]; simp) (by rw [upd_ne _ _ _ hne]; exact hv)
    (by
      simp only [Rep]
      refine ⟨b, m, cp, C, ty, BA ++ [] ++ BC, rfl, rfl, hC, by rw [← hlen']; exact hsz, hnc, hcC, ?_⟩
      rw [← hlen', hvs]
      exact join_row (repL_nohdr_of_none _ hA) (by simp only [Rep]; exact ⟨trivial, upd_same _ _ _⟩) (repL_nohdr_of_none _ hCl))
    (fun _ _ _ => rfl) (Nat.le_refl _) rfl rfl (by first | exact ⟨rfl, Nat.le_refl _⟩ | exact ⟨rfl, Nat.le_succ _⟩) nodupAC (fun x hx => .inl (by rw [upd_ne _ _ _ hne, upd_same]; exact hx))
  have e : (St.node (St.node (St.node ⟨asS l, asO ol, n⟩ nm (some (.opw sz (Al ++ .junk :: Cl)))) d (some (.own s nn' r))) nm (some (.opw sz (Al ++ .ref d :: Cl)))) =
      ⟨asS l, asO ((nm, .opw sz (Al ++ .ref d :: Cl)) :: (d, .own s nn' r) :: ol), n⟩ := by
    simp only [St.node]
    congr 1
    funext t
    simp only [upd, asO]
    by_cases e1 : t = nm
    · simp [e1]
    · by_cases e2 : t = d
      · simp [e1, e2]
      · simp [e1, e2]
  rw [e] at t3
  exact ⟨_, _, _, t3⟩

/-- Names without one of them. -/
def del' (d : Nat) : List (Nat × AV) → List (Nat × AV)
  | [] => []
  | (k, y) :: l => if k = d then del' d l else (k, y) :: del' d l
theorem asO_del' (d : Nat) : ∀ l, asO (del' d l) = upd (asO l) d none := by
  intro l
  induction l with
  | nil => funext t; simp [del', asO, upd]
  | cons p l ih =>
    obtain ⟨k, y⟩ := p
    funext t
    simp only [del']
    split
    · rename_i e; subst e
      rw [ih]
      simp only [asO, upd]
      split <;> rfl
    · rename_i e
      simp only [asO, ih, upd]
      by_cases h1 : t = k
      · subst h1; simp [e]
      · simp [h1]
theorem weak_close {l ol : List (Nat × AV)} {n : Nat} (nm d : Nat) {sz s : Nat} {nn' : Bool} {r : List AV} (Al Cl : List AV) (h1 : asO ol nm = some (.opw sz (Al ++ .ref d :: Cl))) (h2 : asO ol d = some (.own s nn' r)) (hne : nm ≠ d)
    (hA : nrfL Al = true) (hCn : nrfL Cl = true) :
    Weak ⟨asS l, asO ol, n⟩ ⟨asS l, asO ((nm, .own sz true (Al ++ .own s nn' r :: Cl)) :: del' d ol), n⟩ := by
  rintro P c a w ⟨I, hdr, F, h⟩
  have hno : asO ol nm ≠ none := by rw [h1]; simp
  have hdo : asO ol d ≠ none := by rw [h2]; simp
  obtain ⟨v, hv, hr⟩ := h.ob nm _ h1
  simp only [Rep] at hr
  obtain ⟨b, m, cp, C, ty, B', rfl, hB, hC, hsz, hnc, hcC, hr⟩ := hr
  obtain ⟨BA, BX, BC, va, u, vc, rfl, hvs, hAr, hX, hCl⟩ := split_row hr
  simp only [Rep] at hX
  obtain ⟨rfl, hu⟩ := hX
  obtain ⟨u', hu', hrow⟩ := h.ob d _ h2
  rw [hu] at hu'
  cases hu'
  have hnd := h.nd nm hno
  rw [hB] at hnd
  have hndB := List.nodup_cons.1 hnd
  rw [List.append_nil] at hndB
  have hnd2 := List.nodup_append.1 hndB.2
  have hlen : (Al ++ AV.ref d :: Cl).length = (Al ++ AV.own s nn' r :: Cl).length := by simp
  have dis : ∀ x, x ∈ F d → x ∉ b :: (BA ++ BC) := fun x hx hb => h.dj d nm (fun e => hne e.symm) hdo hno x hx (by rw [hB]; simpa using hb)
  have t1 := (h.drop d).turn2 (x' := .own sz true (Al ++ .own s nn' r :: Cl)) (B' := b :: (BA ++ F d ++ BC)) (w' := w) (nm := nm) (x := .opw sz (Al ++ .ref d :: Cl)) (v := .slice (some ⟨b, 0, none⟩) m cp)
    (by simp only [St.node, upd]; rw [if_neg hne]; exact h1) hv
    (by
      simp only [Rep]
      refine .inr ⟨b, m, cp, C, ty, BA ++ F d ++ BC, rfl, rfl, hC, by rw [← hlen]; exact hsz, hnc, hcC, ?_⟩
      rw [← hlen, hvs]
      exact join_row (RepL.nohdr (fun _ => none) _ _ _ hA hAr) (Rep.nohdr (fun _ => none) (.own s nn' r) _ _ rfl hrow) (RepL.nohdr (fun _ => none) _ _ _ hCn hCl))
    (fun _ _ _ => rfl) (Nat.le_refl _) rfl rfl (by first | exact ⟨rfl, Nat.le_refl _⟩ | exact ⟨rfl, Nat.le_succ _⟩)
    (List.nodup_cons.2 ⟨fun hb => by
        simp at hb
        rcases hb with hb | hb | hb
        · exact hndB.1 (by simp [hb])
        · exact dis b hb (by simp)
        · exact hndB.1 (by simp [hb]),
      List.nodup_append.2 ⟨List.nodup_append.2 ⟨hnd2.1, h.nd d hdo, fun x hx y hy e => dis y hy (by subst e; simp [hx])⟩, hnd2.2.1, fun x hx y hy e => by
        rcases List.mem_append.1 hx with hx | hx
        · exact hnd2.2.2 x hx y hy e
        · exact dis x hx (by subst e; simp [hy])⟩⟩)
    (fun x hx => by
      simp at hx
      rcases hx with rfl | hx | hx | hx
      · exact .inl (by rw [hB]; simp)
      · exact .inl (by rw [hB]; simp [hx])
      · refine .inr (.inr ⟨fun k hk hxk => ?_, h.oi d hdo x hx, h.oo d hdo x hx⟩)
        simp only [St.node, upd] at hk
        split at hk
        · exact hk rfl
        · rename_i e
          exact h.dj d k (fun e' => e e'.symm) hdo hk x hx hxk
      · exact .inl (by rw [hB]; simp [hx]))
  have e : (St.node (St.node ⟨asS l, asO ol, n⟩ d none) nm (some (.own sz true (Al ++ .own s nn' r :: Cl)))) = ⟨asS l, asO ((nm, .own sz true (Al ++ .own s nn' r :: Cl)) :: del' d ol), n⟩ := by
    simp only [St.node]
    congr 1
    funext t
    simp only [asO]
    rw [asO_del']
    simp only [upd]
  rw [e] at t1
  exact ⟨_, _, _, t1⟩

/-! ### A node is from now on written by nobody -/
mutual
def frz (nm : Nat) (X : AV) : AV → AV
  | .ref a => if a = nm then view X else .ref a
  | .pt a off => match X with
    | .box _ => if a = nm ∧ off = 0 then view X else .pt a off
    | _ => .pt a off
  | .agg l => .agg (frzL nm X l)
  | .tup l => .tup (frzL nm X l)
  | .fno f l => .fno f (frzL nm X l)
  | .box l => .box (frzL nm X l)
  | .opw sz l => .opw sz (frzL nm X l)
  | x => x
def frzL (nm : Nat) (X : AV) : List AV → List AV
  | [] => []
  | x :: l => frz nm X x :: frzL nm X l
end
mutual
theorem frz_rep {w : World} {I I' : Nat → Prop} {hdr : Nat → Option Value} {nm : Nat} {X : AV} {h : Value} (hI : ∀ b, I b → I' b) (hh : hdr nm = some h) (hX : Rep w I' (fun _ => none) (view X) [] h) (hb : ∀ l, X = .box l → ∃ b, h = .pointer (some ⟨b, 0, none⟩)) :
    ∀ (x : AV) (B : List Nat) (v : Value), Rep w I hdr x B v → Rep w I' hdr (frz nm X x) B v
  | .ref a, B, v, hx => by
    simp only [frz]
    simp only [Rep] at hx
    obtain ⟨rfl, hv⟩ := hx
    split
    · rename_i e; subst e
      rw [hh] at hv; cases hv
      exact rep_nohdr_of_none hdr hX
    · simp only [Rep]; exact ⟨trivial, hv⟩
  | .pt a off, B, v, hx => by
    have same : Rep w I' hdr (.pt a off) B v := by simpa only [Rep] using hx
    simp only [frz]
    split
    · rename_i l
      split
      · rename_i e
        obtain ⟨rfl, rfl⟩ := e
        simp only [Rep] at hx
        obtain ⟨rfl, u, ad, hu, ha, rfl⟩ := hx
        rw [hh] at hu; cases hu
        obtain ⟨b, rfl⟩ := hb _ rfl
        simp only [addrOf, Option.some.injEq] at ha
        subst ha
        have e0 : (⟨b, 0, none⟩ : Addr).add 0 = ⟨b, 0, none⟩ := rfl
        rw [e0]
        exact rep_nohdr_of_none hdr hX
      · exact same
    · exact same
  | .agg l, B, v, hx => by
    simp only [frz, Rep] at hx ⊢
    obtain ⟨cs, e, hl⟩ := hx
    exact ⟨cs, e, frzL_rep hI hh hX hb l B _ hl⟩
  | .tup l, B, v, hx => by
    simp only [frz, Rep] at hx ⊢
    obtain ⟨cs, e, hl⟩ := hx
    exact ⟨cs, e, frzL_rep hI hh hX hb l B _ hl⟩
  | .fno f l, B, v, hx => by
    simp only [frz, Rep] at hx ⊢
    obtain ⟨cs, e, hl⟩ := hx
    exact ⟨cs, e, frzL_rep hI hh hX hb l B _ hl⟩
  | .box l, B, v, hx => by
    simp only [frz, Rep] at hx ⊢
    obtain ⟨b, C, ty, B', e, e2, hc, hl⟩ := hx
    exact ⟨b, C, ty, B', e, e2, hc, frzL_rep hI hh hX hb l B' _ hl⟩
  | .opw sz l, B, v, hx => by
    simp only [frz, Rep] at hx ⊢
    obtain ⟨b, n, c, C, ty, B', e, e2, hc, h1, h2, h3, hl⟩ := hx
    have hlen : ∀ l : List AV, (frzL nm X l).length = l.length := by
      intro l
      induction l with
      | nil => rfl
      | cons x l ih => simp only [frzL, List.length_cons, ih]
    exact ⟨b, n, c, C, ty, B', e, e2, hc, by rw [hlen]; exact h1, h2, h3, by rw [hlen]; exact frzL_rep hI hh hX hb l B' _ hl⟩
  | .junk, B, v, hx => Rep.frame hI (fun _ _ => rfl) _ _ _ (fun _ _ => rfl) hx
  | .val _, B, v, hx => Rep.frame hI (fun _ _ => rfl) _ _ _ (fun _ _ => rfl) hx
  | .sl _ _ _, B, v, hx => Rep.frame hI (fun _ _ => rfl) _ _ _ (fun _ _ => rfl) hx
  | .ip _, B, v, hx => Rep.frame hI (fun _ _ => rfl) _ _ _ (fun _ _ => rfl) hx
  | .fb _ _, B, v, hx => Rep.frame hI (fun _ _ => rfl) _ _ _ (fun _ _ => rfl) hx
  | .fn _ _, B, v, hx => Rep.frame hI (fun _ _ => rfl) _ _ _ (fun _ _ => rfl) hx
  | .sfx _ _, B, v, hx => Rep.frame hI (fun _ _ => rfl) _ _ _ (fun _ _ => rfl) hx
  | .pfx _ _, B, v, hx => Rep.frame hI (fun _ _ => rfl) _ _ _ (fun _ _ => rfl) hx
  | .own _ _ _, B, v, hx => Rep.frame hI (fun _ _ => rfl) _ _ _ (fun _ _ => rfl) hx
  | .mp _, B, v, hx => Rep.frame hI (fun _ _ => rfl) _ _ _ (fun _ _ => rfl) hx
theorem frzL_rep {w : World} {I I' : Nat → Prop} {hdr : Nat → Option Value} {nm : Nat} {X : AV} {h : Value} (hI : ∀ b, I b → I' b) (hh : hdr nm = some h) (hX : Rep w I' (fun _ => none) (view X) [] h) (hb : ∀ l, X = .box l → ∃ b, h = .pointer (some ⟨b, 0, none⟩)) :
    ∀ (l : List AV) (B : List Nat) (vs : List Value), RepL w I hdr l B vs → RepL w I' hdr (frzL nm X l) B vs
  | [], B, vs, hx => by simpa only [frzL, RepL] using hx
  | x :: l, B, vs, hx => by
    simp only [frzL, RepL] at hx ⊢
    obtain ⟨B₁, B₂, v, vs', e1, e2, h1, h2⟩ := hx
    exact ⟨B₁, B₂, v, vs', e1, e2, frz_rep hI hh hX hb x B₁ v h1, frzL_rep hI hh hX hb l B₂ vs' h2⟩
end
def frzS (nm : Nat) (X : AV) : List (Nat × AV) → List (Nat × AV)
  | [] => []
  | p :: l => (p.1, frz nm X p.2) :: frzS nm X l
def frzO (nm : Nat) (X : AV) : List (Nat × AV) → List (Nat × AV)
  | [] => []
  | p :: l => if p.1 = nm then frzO nm X l else (p.1, frz nm X p.2) :: frzO nm X l
theorem asS_frz (nm : Nat) (X : AV) (t : Nat) : ∀ l, asS (frzS nm X l) t = frz nm X (asS l t)
  | [] => by simp [frzS, asS, frz]
  | p :: l => by
    simp only [frzS, asS]
    split
    · rfl
    · exact asS_frz nm X t l
theorem asO_frz (nm : Nat) (X : AV) (t : Nat) : ∀ l, asO (frzO nm X l) t = if t = nm then none else (asO l t).map (frz nm X)
  | [] => by simp [frzO, asO]
  | p :: l => by
    simp only [frzO]
    split
    · rename_i e
      rw [asO_frz nm X t l]
      simp only [asO]
      by_cases h : t = nm
      · simp [h]
      · rw [if_neg h, if_neg h, if_neg (by omega)]
    · rename_i e
      simp only [asO]
      by_cases h : t = p.1
      · rw [if_pos h, if_neg (by omega), if_pos h]; rfl
      · rw [if_neg h, asO_frz nm X t l, if_neg h]
theorem Weak.trans {a b c : St} (h1 : Weak a b) (h2 : Weak b c) : Weak a c := fun {P} x y z h => h2 x y z (h1 x y z h)
/-- The node `nm`, that holds no reference, is frozen. -/
theorem weak_frz {l ol : List (Nat × AV)} {n : Nat} (nm : Nat) {X : AV} (hX : asO ol nm = some X) (hn : nrf X = true) : Weak ⟨asS l, asO ol, n⟩ ⟨asS (frzS nm X l), asO (frzO nm X ol), n⟩ := by
  rintro P c a w ⟨I, hdr, F, h⟩
  obtain ⟨u, hu, hr⟩ := h.ob nm X hX
  have hXo : (St.mk (asS l) (asO ol) n).o nm ≠ none := by rw [show (St.mk (asS l) (asO ol) n).o nm = asO ol nm from rfl, hX]; simp
  have d := h.drop nm
  have keyo : ∀ k, (St.node ⟨asS l, asO ol, n⟩ nm none).o k ≠ none → k ≠ nm ∧ asO ol k ≠ none := by
    intro k hk
    simp only [St.node, upd] at hk
    split at hk
    · exact absurd rfl hk
    · rename_i e; exact ⟨e, hk⟩
  have f := d.freeze (F nm) (fun k hk b hb hb' => h.dj k nm (keyo k hk).1 (keyo k hk).2 hXo b hb hb') (fun b hb => h.F_lt hXo hb) (fun b hb => h.oo nm hXo b hb)
  have hv : Rep w (fun b => I b ∨ b ∈ F nm) (fun _ => none) (view X) [] u := Rep.view (fun _ => rfl) X (F nm) u _ (fun b hb => .inl hb) (fun b hb => .inr hb) (Rep.nohdr (fun _ => none) X (F nm) u hn hr)
  have hb : ∀ m, X = .box m → ∃ b, u = .pointer (some ⟨b, 0, none⟩) := by
    rintro m rfl
    simp only [Rep] at hr
    obtain ⟨b, _, _, _, e, _⟩ := hr
    exact ⟨b, e⟩
  refine ⟨_, hdr, F, f.hI0, f.hIlt, f.hInew, f.fr, f.size, f.os, f.tape, f.out, f.df, f.n, fun t => ?_, f.hone, fun k y hy => ?_, fun k hk => ?_, fun k k' hne hk hk' => ?_, fun k hk => ?_, fun k hk => ?_, f.pin⟩
  · show Rep w _ hdr (asS (frzS nm X l) t) [] _
    rw [asS_frz]
    exact frz_rep (I := fun b => I b ∨ b ∈ F nm) (fun _ hb => hb) hu hv hb _ _ _ (f.sl t)
  · have hy' : asO (frzO nm X ol) k = some y := hy
    rw [asO_frz] at hy'
    split at hy'
    · cases hy'
    · rename_i e
      cases hk : asO ol k with
      | none => rw [hk] at hy'; cases hy'
      | some z =>
        rw [hk] at hy'
        simp only [Option.map_some, Option.some.injEq] at hy'
        subst hy'
        obtain ⟨v, hv1, hv2⟩ := f.ob k z (by simp only [St.node, upd]; rw [if_neg e]; exact hk)
        exact ⟨v, hv1, frz_rep (I := fun b => I b ∨ b ∈ F nm) (fun _ hb => hb) hu hv hb _ _ _ hv2⟩
  all_goals
    have key : ∀ k, asO (frzO nm X ol) k ≠ none → (St.node ⟨asS l, asO ol, n⟩ nm none).o k ≠ none := by
      intro k hk
      rw [asO_frz] at hk
      simp only [St.node, upd]
      split at hk
      · exact absurd rfl hk
      · rename_i e
        rw [if_neg e]
        intro e2; rw [e2] at hk; exact hk rfl
  · exact f.nd k (key k hk)
  · exact f.dj k k' hne (key k hk) (key k' hk')
  · exact f.oi k (key k hk)
  · exact f.oo k (key k hk)

def ins (d : Nat) (x : AV) : List (Nat × AV) → List (Nat × AV)
  | [] => [(d, x)]
  | (k, y) :: l => if k = d then (d, x) :: l else (k, y) :: ins d x l
def del (d : Nat) : List (Nat × AV) → List (Nat × AV)
  | [] => []
  | (k, y) :: l => if k = d then del d l else (k, y) :: del d l

theorem asS_ins (d : Nat) (x : AV) : ∀ l, asS (ins d x l) = upd (asS l) d x := by
  intro l
  induction l with
  | nil => funext t; simp [ins, asS, upd]
  | cons p l ih =>
    obtain ⟨k, y⟩ := p
    funext t
    simp only [ins]
    split
    · rename_i e; subst e
      simp only [asS, upd]
      split <;> rfl
    · rename_i e
      simp only [asS, ih, upd]
      by_cases h1 : t = k
      · subst h1; simp [e]
      · simp [h1]

theorem asO_ins (d : Nat) (x : AV) : ∀ l, asO (ins d x l) = upd (asO l) d (some x) := by
  intro l
  induction l with
  | nil => funext t; simp [ins, asO, upd]
  | cons p l ih =>
    obtain ⟨k, y⟩ := p
    funext t
    simp only [ins]
    split
    · rename_i e; subst e
      simp only [asO, upd]
      split <;> rfl
    · rename_i e
      simp only [asO, ih, upd]
      by_cases h1 : t = k
      · subst h1; simp [e]
      · simp [h1]

theorem asO_del (d : Nat) : ∀ l, asO (del d l) = upd (asO l) d none := by
  intro l
  induction l with
  | nil => funext t; simp [del, asO, upd]
  | cons p l ih =>
    obtain ⟨k, y⟩ := p
    funext t
    simp only [del]
    split
    · rename_i e; subst e
      rw [ih]
      simp only [asO, upd]
      split <;> rfl
    · rename_i e
      simp only [asO, ih, upd]
      by_cases h1 : t = k
      · subst h1; simp [e]
      · simp [h1]

theorem put_mk (l : List (Nat × AV)) (o : Nat → Option AV) (n d : Nat) (x : AV) : St.put ⟨asS l, o, n⟩ (some d) x = ⟨asS ((d, x) :: l), o, n⟩ := by
  simp only [St.put]; congr 1
theorem put_mk_none (st : St) (x : AV) : St.put st none x = st := rfl
theorem node_mk (s : Nat → AV) (l : List (Nat × AV)) (n nm : Nat) (x : AV) : St.node ⟨s, asO l, n⟩ nm (some x) = ⟨s, asO (ins nm x l), n⟩ := by
  simp [St.node, asO_ins]
theorem node_mk_none (s : Nat → AV) (l : List (Nat × AV)) (n nm : Nat) : St.node ⟨s, asO l, n⟩ nm none = ⟨s, asO (del nm l), n⟩ := by
  simp [St.node, asO_del]

def freeB (d : Nat) (l ol : List (Nat × AV)) : Bool := decide (d < 1000000000) && l.all (fun p => noR d p.2) && ol.all (fun p => noR d p.2)

theorem asS_mem {l : List (Nat × AV)} {t : Nat} : asS l t = .junk ∨ ∃ p ∈ l, p.2 = asS l t := by
  induction l with
  | nil => exact .inl rfl
  | cons p l ih =>
    obtain ⟨k, y⟩ := p
    simp only [asS]
    split
    · exact .inr ⟨(k, y), by simp, rfl⟩
    · rcases ih with h | ⟨q, hq, e⟩
      · exact .inl h
      · exact .inr ⟨q, by simp [hq], e⟩

theorem asO_mem {l : List (Nat × AV)} {t : Nat} {x : AV} (h : asO l t = some x) : ∃ p ∈ l, p.2 = x := by
  induction l with
  | nil => simp [asO] at h
  | cons p l ih =>
    obtain ⟨k, y⟩ := p
    simp only [asO] at h
    split at h
    · cases h; exact ⟨(k, x), by simp, rfl⟩
    · obtain ⟨q, hq, e⟩ := ih h
      exact ⟨q, by simp [hq], e⟩

theorem free_mk {l ol : List (Nat × AV)} {n d : Nat} (h : freeB d l ol = true) : St.free ⟨asS l, asO ol, n⟩ d = True := by
  simp only [freeB, Bool.and_eq_true, List.all_eq_true, decide_eq_true_eq, and_assoc] at h
  refine eq_true ⟨h.1, fun t => ?_, fun nm x hx => ?_⟩
  · rcases asS_mem (l := l) (t := t) with e | ⟨p, hp, e⟩
    · show noR d (asS l t) = true
      rw [e]; rfl
    · show noR d (asS l t) = true
      rw [← e]; exact h.2.1 p hp
  · obtain ⟨p, hp, e⟩ := asO_mem hx
    rw [← e]; exact h.2.2 p hp

theorem asS_nil (t : Nat) : asS [] t = .junk := rfl
theorem asS_cons (k : Nat) (x : AV) (l : List (Nat × AV)) (t : Nat) : asS ((k, x) :: l) t = if t = k then x else asS l t := rfl
theorem asO_nil (t : Nat) : asO [] t = none := rfl
theorem asO_cons (k : Nat) (x : AV) (l : List (Nat × AV)) (t : Nat) : asO ((k, x) :: l) t = if t = k then some x else asO l t := rfl

theorem asS_hit (k : Nat) (x : AV) (l : List (Nat × AV)) : asS ((k, x) :: l) k = x := by simp [asS]
theorem asS_miss {k t : Nat} (x : AV) (l : List (Nat × AV)) (h : (t == k) = false) : asS ((k, x) :: l) t = asS l t := by
  have : t ≠ k := by simpa using h
  simp [asS, this]
theorem asO_hit (k : Nat) (x : AV) (l : List (Nat × AV)) : asO ((k, x) :: l) k = some x := by simp [asO]
theorem asO_miss {k t : Nat} (x : AV) (l : List (Nat × AV)) (h : (t == k) = false) : asO ((k, x) :: l) t = asO l t := by
  have : t ≠ k := by simpa using h
  simp [asO, this]
/-! A map whose keys are numbers. -/
def mI (ps : List (Int × Value)) : List (Value × AV) := ps.map fun p => (Value.int .i64 p.1, AV.val p.2)
def putI (z : Int) (v : Value) : List (Int × Value) → List (Int × Value)
  | [] => [(z, v)]
  | (k, u) :: ps => if z = k then (z, v) :: ps else (k, u) :: putI z v ps
theorem mI_nil : mI [] = [] := rfl
@[simp] theorem mI_length (ps : List (Int × Value)) : (mI ps).length = ps.length := by simp [mI]
theorem mpFind_mI (z : Int) (ps : List (Int × Value)) : mpFind (.int .i64) (.int .i64 z) (mI ps) = some ((ps.lookup z).map AV.val) := by
  induction ps with
  | nil => rfl
  | cons p ps ih =>
    obtain ⟨k, u⟩ := p
    simp only [mI, List.map_cons, mpFind, Instr.sameNow, if_true, List.lookup_cons]
    cases h : z == k
    · exact ih
    · rfl
theorem mpPut_mI (z : Int) (v : Value) (ps : List (Int × Value)) : mpPut (.int .i64) (.int .i64 z) (.val v) (mI ps) = some (mI (putI z v ps)) := by
  induction ps with
  | nil => rfl
  | cons p ps ih =>
    obtain ⟨k, u⟩ := p
    simp only [mI, List.map_cons, mpPut, Instr.sameNow, if_true, putI]
    by_cases h : z = k
    · simp [h]
    · have : (z == k) = false := by simpa using h
      simp only [this]
      rw [show List.map (fun p : Int × Value => (Value.int .i64 p.1, AV.val p.2)) ps = mI ps from rfl, ih]
      simp [h, mI]
theorem lookup_putI (z y : Int) (v : Value) (ps : List (Int × Value)) : (putI z v ps).lookup y = if y = z then some v else ps.lookup y := by
  have bt : ∀ a : Int, (a == a) = true := fun a => by simp
  have bf : ∀ a b : Int, a ≠ b → (a == b) = false := fun a b h => by simpa using h
  induction ps with
  | nil =>
    simp only [putI, List.lookup_cons, List.lookup_nil]
    by_cases h : y = z
    · subst h; simp [bt]
    · simp [bf _ _ h, h]
  | cons p ps ih =>
    obtain ⟨k, u⟩ := p
    simp only [putI]
    by_cases h : z = k
    · subst h
      simp only [if_true, List.lookup_cons]
      by_cases h2 : y = z
      · subst h2; simp [bt]
      · simp [bf _ _ h2, h2]
    · simp only [h, if_false, List.lookup_cons, ih]
      by_cases h2 : y = k
      · subst h2
        have : y ≠ z := fun e => h e.symm
        simp [bt, this]
      · simp [bf _ _ h2]
attribute [simp] mpFind_mI mpPut_mI
/-- A count. -/
@[reducible] def iv (n : Int) : AV := .val (.int .i64 n)
@[reducible] def bv (b : Bool) : AV := .val (.bool b)


/-- **A function's contract, out of its walk**, its parts named. -/
theorem walk {P : Program} {f : FuncId} {fn : Func} {code : Code} {rs : List ResultVar} {n : Nat} {args : List AV} {r : AV} (fz : Nat → Bool) (hm : P.follows .mixedOrders = true)
    (hf : P.funcs[f]? = some fn) (hb : fn.body = some code) (hrs : fn.results.toList = rs) (hn : fn.ntmps = n) (hname : (fn.name == "runtime.NumGoroutine") = false) (himm : immL args = true) (hlen : args.length ≤ n) (hcb : codeB drawR code = true)
    (h : awp P fz (drawG P fz) code (endQ P rs r) (st0 args n)) : ACalls1 P f args r := by
  subst hrs
  subst hn
  exact acalls_of (R := drawR) (fun c id ops K st a w Q hR hQ hst hK => drawG_ok hm hR c id K st a w Q hQ hst hK) hf hb hname himm hlen hcb h

def allL {α : Type} (p : α → Prop) : List α → Prop
  | [] => True
  | x :: xs => p x ∧ allL p xs
theorem allL_iff {α : Type} {p : α → Prop} : ∀ {l : List α}, allL p l ↔ ∀ x, x ∈ l → p x
  | [] => by simp [allL]
  | x :: xs => by simp [allL, allL_iff (l := xs)]
theorem okS_eq (e : Eff) : e.okS = ((e.news.map (·.1)).Nodup ∧ allL (fun p => allL (fun q => noR p.1 q.2 = true) e.news) e.news ∧
    allL (fun p => allL (fun q : Nat × Option AV => p.1 ≠ q.1 ∧ match q.2 with | some x => noR p.1 x = true | none => True) e.ws) e.news) := by
  refine propext ?_
  simp only [Eff.okS, allL_iff]
  refine and_congr_right fun _ => and_congr_right fun _ => ?_
  constructor
  · intro h p hp q hq
    refine ⟨(h p hp q hq).1, ?_⟩
    split
    · rename_i x hx; exact (h p hp q hq).2 x hx
    · trivial
  · intro h p hp q hq
    refine ⟨(h p hp q hq).1, fun x hx => ?_⟩
    have := (h p hp q hq).2
    rw [hx] at this; exact this
/-- The temporary exists. -/
def dstB (dst : Option Nat) (n : Nat) : Bool := match dst with | some d => decide (d < n) | none => true
theorem dstB_eq {dst : Option Nat} {n : Nat} : (∀ d, dst = some d → d < n) = (dstB dst n = true) := by
  cases dst <;> simp [dstB]
theorem ok_eq (e : Eff) (st : St) (dst : Option Nat) : e.ok st dst = (dstB dst st.n = true ∧ newsOk (st.ws e.ws) e.news) := by
  rw [Eff.ok, dstB_eq]
theorem okD_eq (e : Eff) (st : St) (dst : Option Nat) : e.okD st dst = (dstB dst st.n = true ∧ e.okS ∧ allL (fun p => st.free p.1 ∧ st.o p.1 = none) e.news) := by
  simp only [Eff.okD, allL_iff, dstB_eq]
/-- Two ways, by a truth value. -/
def brA (c b : Bool) (X Y : Prop) : Prop := (c = b → X) ∧ (c = !b → Y)
theorem brA_tt {X Y : Prop} : brA true true X Y = X := by simp [brA]
theorem brA_ff {X Y : Prop} : brA false false X Y = X := by simp [brA]
theorem brA_tf {X Y : Prop} : brA true false X Y = Y := by simp [brA]
theorem brA_ft {X Y : Prop} : brA false true X Y = Y := by simp [brA]
theorem brA_congr {c c' b : Bool} {X Y : Prop} (h : c = c') : brA c b X Y = brA c' b X Y := by rw [h]
theorem brA_t {c : Bool} {X Y : Prop} : brA c true X Y = ((c = true → X) ∧ (c = false → Y)) := rfl
theorem brA_f {c : Bool} {X Y : Prop} : brA c false X Y = ((c = false → X) ∧ (c = true → Y)) := rfl
theorem gdA_eq (ops : Array Oper) (o : Oper) (st : St) (yes no : St → Prop) : gdA ops o st yes no = match o.guard with
  | none => yes st
  | some (j, b) => match (ops[j]?).bind (·.dst) with
    | some g => match st.s g with
      | .val (.bool c) => brA c b (yes (st.put (some g) (.val (.bool b)))) (no (st.put (some g) (.val (.bool !b))))
      | .val (.tuple _) => no st
      | _ => False
    | none => False := rfl
theorem condA_eq (st : St) (c : Operand) (yes no : St → Prop) : condA st c yes no = match c with
  | .tmp t => match st.s t with
    | .val (.bool b) => brA b true (yes (st.put (some t) (.val (.bool true)))) (no (st.put (some t) (.val (.bool false))))
    | _ => False
  | .const (.bool b) => brA b true (yes st) (no st)
  | _ => False := by
  unfold condA brA
  rfl
attribute [congr] brA_congr
attribute [simp ↓ high] brA_tt brA_ff brA_tf brA_ft
attribute [simp high] brA_tt brA_ff brA_tf brA_ft
attribute [simp low] brA_t brA_f
theorem walkO {P : Program} {f : FuncId} {fn : Func} {code : Code} {rs : List ResultVar} {n : Nat} {args args' : List AV} {r : AV} (fz : Nat → Bool) (hm : P.follows .mixedOrders = true)
    (hf : P.funcs[f]? = some fn) (hb : fn.body = some code) (hrs : fn.results.toList = rs) (hn : fn.ntmps = n) (hname : (fn.name == "runtime.NumGoroutine") = false) (hnd : ((opnL pin0 args).2.map (·.1)).Nodup) (hpin : allL (fun p : Nat × AV => pin0 ≤ p.1) (opnL pin0 args).2)
    (hlen : args.length ≤ n) (hcb : codeB drawR code = true) (h : awp P fz (drawG P fz) code (endO P rs args args' r) (st0O args n)) : ACalls2 P f args args' r := by
  subst hrs
  subst hn
  exact acallsO_of (R := drawR) (fun c id ops K st a w Q hR hQ hst hK => drawG_ok hm hR c id K st a w Q hQ hst hK) hf hb hname hlen hcb hnd (allL_iff.1 hpin) h

/-- A walk whose end tells what each result is. -/
theorem walkR {P : Program} {f : FuncId} {fn : Func} {code : Code} {rs : List ResultVar} {n : Nat} {args : List AV} {R : List AV → AV → Prop} (fz : Nat → Bool) (hm : P.follows .mixedOrders = true)
    (hf : P.funcs[f]? = some fn) (hb : fn.body = some code) (hrs : fn.results.toList = rs) (hn : fn.ntmps = n) (hname : (fn.name == "runtime.NumGoroutine") = false) (hnd : ((opnL pin0 args).2.map (·.1)).Nodup) (hpin : allL (fun p : Nat × AV => pin0 ≤ p.1) (opnL pin0 args).2)
    (hlen : args.length ≤ n) (hcb : codeB drawR code = true) (h : awp P fz (drawG P fz) code (endR P rs args R) (st0O args n)) : ACalls P f args R := by
  subst hrs
  subst hn
  exact acallsR_of (R := drawR) (fun c id ops K st a w Q hR hQ hst hK => drawG_ok hm hR c id K st a w Q hQ hst hK) hf hb hname hlen hcb hnd (allL_iff.1 hpin) h

theorem walkJ {P : Program} {f : FuncId} {fn : Func} {code : Code} {rs : List ResultVar} {n : Nat} {args args' : List AV} {r : AV} (fz : Nat → Bool) (js : List Bool) (hm : P.follows .mixedOrders = true)
    (hf : P.funcs[f]? = some fn) (hb : fn.body = some code) (hrs : fn.results.toList = rs) (hn : fn.ntmps = n) (hname : (fn.name == "runtime.NumGoroutine") = false) (hnd : ((opnL pin0 args).2.map (·.1)).Nodup) (hpin : allL (fun p : Nat × AV => pin0 ≤ p.1) (opnL pin0 args).2)
    (hlen : args.length ≤ n) (hcb : codeB drawR code = true) (h : awp P fz (drawG P fz) code (endJ P rs js args args' r) (st0O args n)) : ACalls2 P f args args' r := by
  subst hrs
  subst hn
  exact acallsJ_of (js := js) (R := drawR) (fun c id ops K st a w Q hR hQ hst hK => drawG_ok hm hR c id K st a w Q hQ hst hK) hf hb hname hlen hcb hnd (allL_iff.1 hpin) h

/-- An effect that is reckoned first. -/
def ExE (A B : Eff → Prop) : Prop := ∃ e, A e ∧ B e
@[congr] theorem cg_ExE {A A' B : Eff → Prop} (h : ∀ e, A e = A' e) : ExE A B = ExE A' B := by rw [show A = A' from funext h]
theorem exE_eq {x : Eff} {B : Eff → Prop} : ExE (fun e => x = e) B = B x := propext ⟨fun ⟨_, h, k⟩ => h ▸ k, fun h => ⟨x, rfl, h⟩⟩
theorem exE_and {p : Prop} {A B : Eff → Prop} : ExE (fun e => p ∧ A e) B = (p ∧ ExE A B) := propext ⟨fun ⟨e, ⟨h, k⟩, b⟩ => ⟨h, e, k, b⟩, fun ⟨h, e, k, b⟩ => ⟨e, ⟨h, k⟩, b⟩⟩
theorem exE_false {B : Eff → Prop} : ExE (fun _ => False) B = False := propext ⟨fun ⟨_, h, _⟩ => h, fun h => h.elim⟩

theorem opsA_nil {P : Program} {fz : Nat → Bool} {all : Array Oper} {st : St} {K : St → Prop} : opsA P fz all [] st K = K st := Eq.trans rfl rfl
theorem opsA_cons {P : Program} {fz : Nat → Bool} {all : Array Oper} {o : Oper} {rest : List Oper} {l ol : List (Nat × AV)} {n : Nat} {K : St → Prop} : opsA P fz all (o :: rest) ⟨asS l, asO ol, n⟩ K =
    gdA all o ⟨asS l, asO ol, n⟩ (fun st => opA P fz o st fun e => e.ok st o.dst ∧ opsA P fz all rest (st.app o.dst e) K) (fun st => dstB o.dst st.n = true ∧ opsA P fz all rest (st.put o.dst (.val undef)) K) := by
  simp only [← dstB_eq]; rfl
theorem drawOps_nil {P : Program} {fz : Nat → Bool} {all : Array Oper} {st₀ st : St} {recs : List Rec} {K : St → Prop} : drawOps P fz all st₀ [] recs st K =
    ((compat all recs = true ∧ textB all = true) ∧ allL (fun r : Rec => allL (fun p => st₀.free p.1 ∧ st₀.o p.1 = none) r.e.news) recs ∧ K st) := by
  simp only [drawOps, allL_iff]
theorem drawOps_cons {P : Program} {fz : Nat → Bool} {all : Array Oper} {st₀ : St} {o : Oper} {rest : List Oper} {recs : List Rec} {l ol : List (Nat × AV)} {n : Nat} {K : St → Prop} : drawOps P fz all st₀ (o :: rest) recs ⟨asS l, asO ol, n⟩ K =
    gdA all o ⟨asS l, asO ol, n⟩ (fun st => ExE (fun e => opA P fz o st (fun e' => e' = e)) fun e => e.okD st o.dst ∧ drawOps P fz all st₀ rest (recs ++ [⟨looks st o, e⟩]) (st.app o.dst e) K)
      (fun st => dstB o.dst st.n = true ∧ drawOps P fz all st₀ rest (recs ++ [⟨[], { val := .val undef }⟩]) (st.put o.dst (.val undef)) K) := by
  simp only [← dstB_eq]; rfl

theorem drawP_nil {P : Program} {fz : Nat → Bool} {all : Array Oper} {st : St} {K : St → Prop} : drawP P fz all [] st K = K st := Eq.trans rfl rfl
theorem drawP_cons {P : Program} {fz : Nat → Bool} {all : Array Oper} {o : Oper} {rest : List Oper} {l ol : List (Nat × AV)} {n : Nat} {K : St → Prop} : drawP P fz all (o :: rest) ⟨asS l, asO ol, n⟩ K =
    gdA all o ⟨asS l, asO ol, n⟩ (fun st => ExE (fun e => opA P fz o st (fun e' => e' = e)) fun e => (e.news = [] ∧ e.ws = [] ∧ dstB o.dst st.n = true) ∧ drawP P fz all rest (st.app o.dst e) K)
      (fun st => dstB o.dst st.n = true ∧ drawP P fz all rest (st.put o.dst (.val undef)) K) := by
  simp only [← dstB_eq]; rfl
theorem drawG_cons {P : Program} {fz : Nat → Bool} {ops : Array Oper} {st : St} {K : St → Prop} : drawG P fz ops st K = bif ops.toList.all plainOp && !fz (firstDst ops.toList + 1000) then drawP P fz ops ops.toList st K else drawA P fz ops st K := rfl
theorem awp_skip {P : Program} {fz : Nat → Bool} {dr : Array Oper → St → (St → Prop) → Prop} {Q : Exit → St → Prop} {st : St} : awp P fz dr .skip Q st = Q .normal st := Eq.trans rfl rfl
theorem awp_f {P : Program} {fz : Nat → Bool} {dr : Array Oper → St → (St → Prop) → Prop} {Q : Exit → St → Prop} {st : St} {id : Nat} {ops : Array Oper} : awp P fz dr (.region id ops false) Q st = opsA P fz ops ops.toList st (RK fz ops.toList (Q .normal)) := Eq.trans rfl rfl
theorem awp_t {P : Program} {fz : Nat → Bool} {dr : Array Oper → St → (St → Prop) → Prop} {Q : Exit → St → Prop} {st : St} {id : Nat} {ops : Array Oper} : awp P fz dr (.region id ops true) Q st = dr ops st (Q .normal) := Eq.trans rfl rfl
theorem awp_seq {P : Program} {fz : Nat → Bool} {dr : Array Oper → St → (St → Prop) → Prop} {Q : Exit → St → Prop} {st : St} {x y : Code} : awp P fz dr (.seq x y) Q st = awp P fz dr x (thn (awp P fz dr y Q) Q) st := Eq.trans rfl rfl
theorem awp_cond {P : Program} {fz : Nat → Bool} {dr : Array Oper → St → (St → Prop) → Prop} {Q : Exit → St → Prop} {st : St} {c : Operand} {x y : Code} : awp P fz dr (.cond c x y) Q st = condA st c (awp P fz dr x Q) (awp P fz dr y Q) := Eq.trans rfl rfl
theorem awp_block {P : Program} {fz : Nat → Bool} {dr : Array Oper → St → (St → Prop) → Prop} {Q : Exit → St → Prop} {st : St} {id : Nat} {c : Code} : awp P fz dr (.block id c) Q st = awp P fz dr c (inBlk id Q) st := Eq.trans rfl rfl
theorem awp_exit {P : Program} {fz : Nat → Bool} {dr : Array Oper → St → (St → Prop) → Prop} {Q : Exit → St → Prop} {st : St} {id : Nat} : awp P fz dr (.exit id) Q st = Q (.exit id) st := Eq.trans rfl rfl
theorem awp_ret {P : Program} {fz : Nat → Bool} {dr : Array Oper → St → (St → Prop) → Prop} {Q : Exit → St → Prop} {st : St} : awp P fz dr .ret Q st = Q .ret st := Eq.trans rfl rfl

/-- The end of a round. -/
def Round {σ : Type} (I : σ → St) (C : σ → Prop) (μ : σ → Nat) (n : Nat) (st' : St) : Prop := ∃ m st'', Weak st' st'' ∧ m < n ∧ ∃ s', st'' = I s' ∧ C s' ∧ μ s' = m

theorem Round.mk {σ : Type} {I : σ → St} {C : σ → Prop} {μ : σ → Nat} {n : Nat} {st' : St} (s' : σ) (hw : Weak st' (I s')) (hc : C s') (hm : μ s' < n) : Round I C μ n st' := ⟨_, _, hw, hm, s', rfl, hc, rfl⟩

/-- A loop: `I`: the state at each round's head, told by the loop's data; `C`: what is known of them; `μ`: what goes down. -/
theorem awp_loop {P : Program} {fz : Nat → Bool} {dr : Array Oper → St → (St → Prop) → Prop} {Q : Exit → St → Prop} {st : St} {body : Code} {σ : Type} (I : σ → St) (C : σ → Prop) (μ : σ → Nat) (s0 : σ)
    (hw : Weak st (I s0)) (hc : C s0) (h : ∀ s, C s → awp P fz dr body (thn (Round I C μ (μ s)) Q) (I s)) : awp P fz dr (.loop body) Q st := by
  refine ⟨fun n st => ∃ s, st = I s ∧ C s ∧ μ s = n, ⟨_, _, hw, s0, rfl, hc, rfl⟩, ?_⟩
  rintro n _ ⟨s, rfl, hs, rfl⟩
  exact h s hs

/-! ### The engine: each operation by a law of its own; what waits is no lambda -/
section engine
variable {P : Program} {fz : Nat → Bool} {dr : Array Oper → St → (St → Prop) → Prop} {all : Array Oper} {st st' : St} {t t' ty : TypeId} {x x' y y' : AV} {l ol : List (Nat × AV)} {n : Nat}
  {dst : Option Nat} {op : Op} {pos : String} {after : Array Edge} {g : Option (Nat × Bool)} {rest : List Oper} {K : St → Prop} {k : Eff → Prop}
def KK (P : Program) (fz : Nat → Bool) (all : Array Oper) (rest : List Oper) (dst : Option Nat) (st : St) (K : St → Prop) (e : Eff) : Prop := e.ok st dst ∧ opsA P fz all rest (st.app dst e) K
def YK (P : Program) (fz : Nat → Bool) (all : Array Oper) (o : Oper) (rest : List Oper) (K : St → Prop) (st : St) : Prop := opA P fz o st (KK P fz all rest o.dst st K)
def NK (P : Program) (fz : Nat → Bool) (all : Array Oper) (rest : List Oper) (dst : Option Nat) (K : St → Prop) (st : St) : Prop := (∀ d, dst = some d → d < st.n) ∧ opsA P fz all rest (st.put dst (.val undef)) K
def gslot (all : Array Oper) (j : Nat) : Option Nat := (all[j]?).bind (·.dst)
def gdS (g : Option Nat) (b : Bool) (st : St) (Y N : St → Prop) : Prop := match g with
  | some g => match st.s g with
    | .val (.bool c) => brA c b (Y (st.put (some g) (.val (.bool b)))) (N (st.put (some g) (.val (.bool !b))))
    | .val (.tuple _) => N st
    | _ => False
  | none => False
def gdT (v : AV) (g : Nat) (b : Bool) (st : St) (Y N : St → Prop) : Prop := match v with
  | .val (.bool c) => brA c b (Y (st.put (some g) (.val (.bool b)))) (N (st.put (some g) (.val (.bool !b))))
  | .val (.tuple _) => N st
  | _ => False
theorem opsA_n : opsA P fz all (⟨dst, op, ty, pos, after, none⟩ :: rest) st K = opA P fz ⟨dst, op, ty, pos, after, none⟩ st (KK P fz all rest dst st K) := Eq.trans rfl rfl
theorem opsA_g {j : Nat} {b : Bool} : opsA P fz all (⟨dst, op, ty, pos, after, some (j, b)⟩ :: rest) st K = gdS (gslot all j) b st (YK P fz all ⟨dst, op, ty, pos, after, some (j, b)⟩ rest K) (NK P fz all rest dst K) := Eq.trans rfl rfl
theorem gdS_some {d : Nat} {b : Bool} {Y N : St → Prop} {o : Nat → Option AV} : gdS (some d) b ⟨asS l, o, n⟩ Y N = gdT (asS l d) d b ⟨asS l, o, n⟩ Y N := Eq.trans rfl rfl
theorem gdT_bool {d : Nat} {c b : Bool} {Y N : St → Prop} {o : Nat → Option AV} : gdT (.val (.bool c)) d b ⟨asS l, o, n⟩ Y N = brA c b (Y ⟨asS ((d, .val (.bool b)) :: l), o, n⟩) (N ⟨asS ((d, .val (.bool !b)) :: l), o, n⟩) := by
  rw [← put_mk, ← put_mk]; rfl
theorem gdT_tup {d : Nat} {cs : Array Value} {b : Bool} {Y N : St → Prop} : gdT (.val (.tuple cs)) d b st Y N = N st := Eq.trans rfl rfl
theorem YK_eq {o : Oper} : YK P fz all o rest K st = opA P fz o st (KK P fz all rest o.dst st K) := Eq.trans rfl rfl
theorem NK_eq {d : Nat} {o : Nat → Option AV} : NK P fz all rest (some d) K ⟨asS l, o, n⟩ = (d < n ∧ opsA P fz all rest ⟨asS ((d, .val (.tuple #[])) :: l), o, n⟩ K) := by
  rw [← put_mk]
  exact propext ⟨fun h => ⟨h.1 d rfl, h.2⟩, fun h => ⟨fun _ e => Option.some.inj e ▸ h.1, h.2⟩⟩
theorem NK_none : NK P fz all rest none K st = opsA P fz all rest st K := propext ⟨fun h => h.2, fun h => ⟨(fun _ e => nomatch e), h⟩⟩
theorem KK_val {d : Nat} {o : Nat → Option AV} {r : Bool} : KK P fz all rest (some d) ⟨asS l, o, n⟩ K { val := x, rd := r } = (d < n ∧ opsA P fz all rest ⟨asS ((d, x) :: l), o, n⟩ K) := by
  rw [← put_mk]
  exact propext ⟨fun h => ⟨h.1.1 d rfl, h.2⟩, fun h => ⟨⟨fun _ e => Option.some.inj e ▸ h.1, trivial⟩, h.2⟩⟩
theorem KK_gen {e : Eff} : KK P fz all rest dst st K e = (e.ok st dst ∧ opsA P fz all rest (st.app dst e) K) := Eq.trans rfl rfl
/-! Regions whose order is open. -/
def DK (P : Program) (fz : Nat → Bool) (all : Array Oper) (rest : List Oper) (dst : Option Nat) (st : St) (K : St → Prop) (e : Eff) : Prop := (e.news = [] ∧ e.ws = [] ∧ ∀ d, dst = some d → d < st.n) ∧ drawP P fz all rest (st.app dst e) K
def YD (P : Program) (fz : Nat → Bool) (all : Array Oper) (o : Oper) (rest : List Oper) (K : St → Prop) (st : St) : Prop := ExE (fun e => opA P fz o st (fun e' => e' = e)) (DK P fz all rest o.dst st K)
def ND (P : Program) (fz : Nat → Bool) (all : Array Oper) (rest : List Oper) (dst : Option Nat) (K : St → Prop) (st : St) : Prop := (∀ d, dst = some d → d < st.n) ∧ drawP P fz all rest (st.put dst (.val undef)) K
theorem drawP_n : drawP P fz all (⟨dst, op, ty, pos, after, none⟩ :: rest) st K = ExE (fun e => opA P fz ⟨dst, op, ty, pos, after, none⟩ st (fun e' => e' = e)) (DK P fz all rest dst st K) := Eq.trans rfl rfl
theorem drawP_g {j : Nat} {b : Bool} : drawP P fz all (⟨dst, op, ty, pos, after, some (j, b)⟩ :: rest) st K = gdS (gslot all j) b st (YD P fz all ⟨dst, op, ty, pos, after, some (j, b)⟩ rest K) (ND P fz all rest dst K) := Eq.trans rfl rfl
theorem YD_eq {o : Oper} : YD P fz all o rest K st = ExE (fun e => opA P fz o st (fun e' => e' = e)) (DK P fz all rest o.dst st K) := Eq.trans rfl rfl
theorem ND_eq {d : Nat} {o : Nat → Option AV} : ND P fz all rest (some d) K ⟨asS l, o, n⟩ = (d < n ∧ drawP P fz all rest ⟨asS ((d, .val (.tuple #[])) :: l), o, n⟩ K) := by
  rw [← put_mk]
  exact propext ⟨fun h => ⟨h.1 d rfl, h.2⟩, fun h => ⟨fun _ e => Option.some.inj e ▸ h.1, h.2⟩⟩
theorem DK_val {d : Nat} {o : Nat → Option AV} {r : Bool} : DK P fz all rest (some d) ⟨asS l, o, n⟩ K { val := x, rd := r } = (d < n ∧ drawP P fz all rest ⟨asS ((d, x) :: l), o, n⟩ K) := by
  rw [← put_mk]
  exact propext ⟨fun h => ⟨h.1.2.2 d rfl, h.2⟩, fun h => ⟨⟨rfl, rfl, fun _ e => Option.some.inj e ▸ h.1⟩, h.2⟩⟩
theorem DK_gen {e : Eff} : DK P fz all rest dst st K e = ((e.news = [] ∧ e.ws = [] ∧ dstB dst st.n = true) ∧ drawP P fz all rest (st.app dst e) K) := by
  simp only [← dstB_eq]; rfl
def DO (P : Program) (fz : Nat → Bool) (all : Array Oper) (st₀ : St) (rest : List Oper) (recs : List Rec) (ls : List Nat) (dst : Option Nat) (st : St) (K : St → Prop) (e : Eff) : Prop := e.okD st dst ∧ drawOps P fz all st₀ rest (recs ++ [⟨ls, e⟩]) (st.app dst e) K
def YO (P : Program) (fz : Nat → Bool) (all : Array Oper) (st₀ : St) (o : Oper) (rest : List Oper) (recs : List Rec) (K : St → Prop) (st : St) : Prop := ExE (fun e => opA P fz o st (fun e' => e' = e)) (DO P fz all st₀ rest recs (looks st o) o.dst st K)
def NO (P : Program) (fz : Nat → Bool) (all : Array Oper) (st₀ : St) (rest : List Oper) (recs : List Rec) (dst : Option Nat) (K : St → Prop) (st : St) : Prop := (∀ d, dst = some d → d < st.n) ∧ drawOps P fz all st₀ rest (recs ++ [⟨[], { val := .val undef }⟩]) (st.put dst (.val undef)) K
theorem drawOps_n {st₀ : St} {recs : List Rec} : drawOps P fz all st₀ (⟨dst, op, ty, pos, after, none⟩ :: rest) recs st K = ExE (fun e => opA P fz ⟨dst, op, ty, pos, after, none⟩ st (fun e' => e' = e)) (DO P fz all st₀ rest recs (looks st ⟨dst, op, ty, pos, after, none⟩) dst st K) := Eq.trans rfl rfl
theorem drawOps_g {st₀ : St} {recs : List Rec} {j : Nat} {b : Bool} : drawOps P fz all st₀ (⟨dst, op, ty, pos, after, some (j, b)⟩ :: rest) recs st K = gdS (gslot all j) b st (YO P fz all st₀ ⟨dst, op, ty, pos, after, some (j, b)⟩ rest recs K) (NO P fz all st₀ rest recs dst K) := Eq.trans rfl rfl
theorem YO_eq {st₀ : St} {recs : List Rec} {o : Oper} : YO P fz all st₀ o rest recs K st = ExE (fun e => opA P fz o st (fun e' => e' = e)) (DO P fz all st₀ rest recs (looks st o) o.dst st K) := Eq.trans rfl rfl
theorem NO_eq {st₀ : St} {recs : List Rec} {d : Nat} {o : Nat → Option AV} : NO P fz all st₀ rest recs (some d) K ⟨asS l, o, n⟩ = (d < n ∧ drawOps P fz all st₀ rest (recs ++ [⟨[], { val := .val undef }⟩]) ⟨asS ((d, .val (.tuple #[])) :: l), o, n⟩ K) := by
  rw [← put_mk]
  exact propext ⟨fun h => ⟨h.1 d rfl, h.2⟩, fun h => ⟨fun _ e => Option.some.inj e ▸ h.1, h.2⟩⟩
theorem DO_gen {st₀ : St} {recs : List Rec} {ls : List Nat} {e : Eff} : DO P fz all st₀ rest recs ls dst st K e = (e.okD st dst ∧ drawOps P fz all st₀ rest (recs ++ [⟨ls, e⟩]) (st.app dst e) K) := Eq.trans rfl rfl
/-! The operations. -/
theorem opv_tmp {o : Nat → Option AV} {d : Nat} : opv ⟨asS l, o, n⟩ (.tmp d) = asS l d := Eq.trans rfl rfl
theorem opv_fn {f : FuncId} : opv st (.func f) = .fn f [] := Eq.trans rfl rfl
theorem opv_int {c : IntKind} {z : Int} : opv st (.const (.int c z)) = .val (.int c z) := Eq.trans rfl rfl
theorem opv_bool {b : Bool} : opv st (.const (.bool b)) = .val (.bool b) := Eq.trans rfl rfl
theorem opv_str {b : ByteArray} : opv st (.const (.string b)) = .val (.string b) := Eq.trans rfl rfl
theorem opv_sl {a : Option Addr} {i c : Nat} : opv st (.const (.slice a i c)) = .val (.slice a i c) := Eq.trans rfl rfl
theorem opA_move {a : Operand} : opA P fz ⟨dst, .move a, ty, pos, after, g⟩ st k = k { val := opv st a } := Eq.trans rfl rfl
theorem opA_assign {a : Operand} : opA P fz ⟨dst, .assign a, ty, pos, after, g⟩ st k = k { val := opv st a } := Eq.trans rfl rfl
theorem opA_pick {a b c : Operand} : opA P fz ⟨dst, .pick a b c, ty, pos, after, g⟩ st k = pickOp (opv st a) (opv st b) (opv st c) k := Eq.trans rfl rfl
theorem opA_load {a : Operand} : opA P fz ⟨dst, .load t a, ty, pos, after, g⟩ st k = loadOp P st t (opv st a) k := Eq.trans rfl rfl
theorem opA_fieldAddr {a : Operand} {f : Nat} : opA P fz ⟨dst, .fieldAddr t a f, ty, pos, after, g⟩ st k = fieldAddrOp P t (opv st a) f k := Eq.trans rfl rfl
theorem opA_nilCheck {a : Operand} : opA P fz ⟨dst, .nilCheck a, ty, pos, after, g⟩ st k = nilOp (opv st a) k := Eq.trans rfl rfl
theorem nilOp_pt {nm o : Nat} : nilOp (.pt nm o) k = k { val := .pt nm o } := Eq.trans rfl rfl
theorem nilOp_ip {l : List AV} : nilOp (.ip l) k = k { val := .ip l } := Eq.trans rfl rfl
theorem opA_indexAddr {a b : Operand} : opA P fz ⟨dst, .indexAddr t a b, ty, pos, after, g⟩ st k = indexAddrOp P st t (opv st a) (opv st b) k := Eq.trans rfl rfl
theorem opA_extract {a : Operand} {i : Nat} : opA P fz ⟨dst, .extract a i, ty, pos, after, g⟩ st k = extractOp (opv st a) i k := Eq.trans rfl rfl
theorem opA_bin {a b : Operand} {bo : BinOp} : opA P fz ⟨dst, .binOp bo t a b t', ty, pos, after, g⟩ st k = cmpOp P st bo t (opv st a) (opv st b) k := Eq.trans rfl rfl
theorem opA_un {a : Operand} {u : UnOp} : opA P fz ⟨dst, .unOp u t a, ty, pos, after, g⟩ st k = unOp' u (opv st a) k := Eq.trans rfl rfl
theorem opA_conv {a : Operand} : opA P fz ⟨dst, .convert t t' a, ty, pos, after, g⟩ st k = convOp P st dst t t' (opv st a) k := Eq.trans rfl rfl
theorem opA_store {a b : Operand} : opA P fz ⟨dst, .store t a b, ty, pos, after, g⟩ st k = storeOp P st t (opv st a) (opv st b) k := Eq.trans rfl rfl
theorem opA_min {a b : Operand} {ts : Array TypeId} : opA P fz ⟨dst, .call ⟨.builtin .min, #[a, b], ts⟩, ty, pos, after, g⟩ st k = minOp (opv st a) (opv st b) k := Eq.trans rfl rfl
theorem opA_len {a : Operand} : opA P fz ⟨dst, .call ⟨.builtin .len, #[a], #[t]⟩, ty, pos, after, g⟩ st k = lenOp P st t (opv st a) k := Eq.trans rfl rfl
/-- One of two, by a truth value that is reckoned first. -/
def selP (b : Bool) (X Y : Prop) : Prop := bif b then X else Y
theorem opA_append {a b : Operand} : opA P fz ⟨dst, .call ⟨.builtin .append, #[a, b], #[t, t']⟩, ty, pos, after, g⟩ st k = selP (fz (dst.getD 0 + 5000)) (appendOpF P st dst t t' (opv st a) (opv st b) k) (appendOp P st dst t t' (opv st a) (opv st b) k) := Eq.trans rfl rfl
theorem selP_t {X Y : Prop} : selP true X Y = X := Eq.trans rfl rfl
theorem selP_f {X Y : Prop} : selP false X Y = Y := Eq.trans rfl rfl
theorem cg_selP {b b' : Bool} {X Y : Prop} (h : b = b') : selP b X Y = selP b' X Y := by rw [h]
theorem opA_call {f : Operand} {args : Array Operand} {ts : Array TypeId} : opA P fz ⟨dst, .call ⟨.value f, args, ts⟩, ty, pos, after, g⟩ st k = selP (fz (dst.getD 0 + 7000)) (callRel P st dst (opv st f) (args.toList.map (opv st)) k) (selP (fz (dst.getD 0 + 2000)) (callOwn P st dst (opv st f) (args.toList.map (opv st)) k) (selP (fz (dst.getD 0 + 3000)) (callOpF P st dst (opv st f) (args.toList.map (opv st)) k) (callOp P st dst (opv st f) (args.toList.map (opv st)) k))) := Eq.trans rfl rfl
theorem drawG_eq {ops : Array Oper} : drawG P fz ops st K = selP (ops.toList.all plainOp && !fz (firstDst ops.toList + 1000)) (drawP P fz ops ops.toList st K) (drawOps P fz ops st ops.toList [] st K) := Eq.trans rfl rfl
theorem loadOp_ip {c : List AV} : loadOp P st t (.ip c) k = aload P t c 0 false k := Eq.trans rfl rfl
theorem lenOp_sl {sz : Nat} {nn : Bool} {c : List AV} : lenOp P st t (.sl sz nn c) k = (0 < sz ∧ (telem P t).isSome = true ∧ k { val := .val (.int .i64 (c.length / sz : Nat)), rd := true }) := by
  simp only [lenOp, slOf2, slOf]
  cases telem P t <;> simp [mapLen]
theorem cmpOp_lit {bo : BinOp} {c c' : IntKind} {a b : Int} : cmpOp P st bo t (.val (.int c a)) (.val (.int c' b)) k = pbin P bo t (.int c a) (.int c' b) (fun v => k { val := .val v }) := Eq.trans rfl rfl
theorem cmp_add {c : IntKind} {a b : Int} : cmpOp P st .add t (.val (.int c a)) (.val (.int c b)) k = k { val := .val (.int c (c.wrap (a + b))) } := by simp [cmpOp, binOp', pbin, intOp]
theorem cmp_sub {c : IntKind} {a b : Int} : cmpOp P st .sub t (.val (.int c a)) (.val (.int c b)) k = k { val := .val (.int c (c.wrap (a - b))) } := by simp [cmpOp, binOp', pbin, intOp]
theorem cmp_mul {c : IntKind} {a b : Int} : cmpOp P st .mul t (.val (.int c a)) (.val (.int c b)) k = k { val := .val (.int c (c.wrap (a * b))) } := by simp [cmpOp, binOp', pbin, intOp]
theorem cmp_eql {c : IntKind} {a b : Int} : cmpOp P st .eql t (.val (.int c a)) (.val (.int c b)) k = k { val := .val (.bool (a == b)) } := by simp [cmpOp, binOp', pbin, intOp]
theorem cmp_neq {c : IntKind} {a b : Int} : cmpOp P st .neq t (.val (.int c a)) (.val (.int c b)) k = k { val := .val (.bool (a != b)) } := by simp [cmpOp, binOp', pbin, intOp]
theorem cmp_lss {c : IntKind} {a b : Int} : cmpOp P st .lss t (.val (.int c a)) (.val (.int c b)) k = k { val := .val (.bool (decide (a < b))) } := by simp [cmpOp, binOp', pbin, intOp]
theorem cmp_leq {c : IntKind} {a b : Int} : cmpOp P st .leq t (.val (.int c a)) (.val (.int c b)) k = k { val := .val (.bool (decide (a ≤ b))) } := by simp [cmpOp, binOp', pbin, intOp]
theorem cmp_gtr {c : IntKind} {a b : Int} : cmpOp P st .gtr t (.val (.int c a)) (.val (.int c b)) k = k { val := .val (.bool (decide (b < a))) } := by simp [cmpOp, binOp', pbin, intOp]
theorem cmp_geq {c : IntKind} {a b : Int} : cmpOp P st .geq t (.val (.int c a)) (.val (.int c b)) k = k { val := .val (.bool (decide (b ≤ a))) } := by simp [cmpOp, binOp', pbin, intOp]
theorem cmp_and {c : IntKind} {a b : Int} : cmpOp P st .and t (.val (.int c a)) (.val (.int c b)) k = k { val := .val (.int c (ibits .and c a b)) } := by simp [cmpOp, binOp', pbin, intOp]
theorem cmp_or {c : IntKind} {a b : Int} : cmpOp P st .or t (.val (.int c a)) (.val (.int c b)) k = k { val := .val (.int c (ibits .or c a b)) } := by simp [cmpOp, binOp', pbin, intOp]
theorem cmp_andNot {c : IntKind} {a b : Int} : cmpOp P st .andNot t (.val (.int c a)) (.val (.int c b)) k = k { val := .val (.int c (ibits .andNot c a b)) } := by simp [cmpOp, binOp', pbin, intOp]
theorem pick_bool {c p q : Bool} : pickOp (.val (.bool c)) (.val (.bool p)) (.val (.bool q)) k = k { val := .val (.bool (bif c then p else q)) } := Eq.trans rfl rfl
theorem pick_t {p q : AV} : pickOp (.val (.bool true)) p q k = k { val := p } := by
  unfold pickOp
  split
  · rename_i h; cases h; split
    · simp
    · rfl
  · rename_i h; exact absurd rfl (h true)
theorem pick_f {p q : AV} : pickOp (.val (.bool false)) p q k = k { val := q } := by
  unfold pickOp
  split
  · rename_i h; cases h; split
    · simp
    · rfl
  · rename_i h; exact absurd rfl (h false)
theorem conv_int {c : IntKind} {z : Int} : convOp P st dst t t' (.val (.int c z)) k = (tok P t = true ∧ match tint P t' with
    | some c' => k { val := .val (.int c' (c'.wrap z)) }
    | none => False) := Eq.trans rfl rfl
theorem not_bool {b : Bool} : unOp' .not (.val (.bool b)) k = k { val := .val (.bool !b) } := Eq.trans rfl rfl
/-! Statements. -/
theorem thn_n {N : St → Prop} {Q : Exit → St → Prop} : thn N Q .normal st = N st := Eq.trans rfl rfl
theorem thn_x {N : St → Prop} {Q : Exit → St → Prop} {i : Nat} : thn N Q (.exit i) st = Q (.exit i) st := Eq.trans rfl rfl
theorem thn_r {N : St → Prop} {Q : Exit → St → Prop} : thn N Q .ret st = Q .ret st := Eq.trans rfl rfl
theorem inBlk_n {Q : Exit → St → Prop} {i : Nat} : inBlk i Q .normal st = Q .normal st := Eq.trans rfl rfl
theorem inBlk_r {Q : Exit → St → Prop} {i : Nat} : inBlk i Q .ret st = Q .ret st := Eq.trans rfl rfl
theorem inBlk_x {Q : Exit → St → Prop} {i : Nat} : inBlk i Q (.exit i) st = Q .normal st := by simp [inBlk]
theorem inBlk_y {Q : Exit → St → Prop} {i j : Nat} (h : (j == i) = false) : inBlk i Q (.exit j) st = Q (.exit j) st := by
  have : j ≠ i := by simpa using h
  simp [inBlk, this]
def condV (v : AV) (d : Nat) (st : St) (yes no : St → Prop) : Prop := match v with
  | .val (.bool b) => brA b true (yes (st.put (some d) (.val (.bool true)))) (no (st.put (some d) (.val (.bool false))))
  | _ => False
theorem cg_condV {v v' : AV} {d : Nat} {yes no : St → Prop} (h : v = v') : condV v d st yes no = condV v' d st yes no := by rw [h]
theorem condA_tmp {o : Nat → Option AV} {d : Nat} {yes no : St → Prop} : condA ⟨asS l, o, n⟩ (.tmp d) yes no = condV (asS l d) d ⟨asS l, o, n⟩ yes no := by
  unfold condA condV brA
  rfl
theorem condV_bool {o : Nat → Option AV} {d : Nat} {b : Bool} {yes no : St → Prop} : condV (.val (.bool b)) d ⟨asS l, o, n⟩ yes no = brA b true (yes ⟨asS ((d, .val (.bool true)) :: l), o, n⟩) (no ⟨asS ((d, .val (.bool false)) :: l), o, n⟩) := by
  rw [← put_mk, ← put_mk]; rfl
theorem cg_gdS {g g' : Option Nat} {b : Bool} {Y N : St → Prop} (h : g = g') : gdS g b st Y N = gdS g' b st Y N := by rw [h]
theorem cg_gdT {v v' : AV} {d : Nat} {b : Bool} {Y N : St → Prop} (h : v = v') : gdT v d b st Y N = gdT v' d b st Y N := by rw [h]
theorem region_f {Q : Exit → St → Prop} {id : Nat} {ops : List Oper} : awp P fz dr (.region id (List.toArray ops) false) Q st = opsA P fz (List.toArray ops) ops st (RK fz ops (Q .normal)) := Eq.trans rfl rfl
theorem RK_n {d : Nat} : RK fz (⟨some d, op, ty, pos, after, g⟩ :: rest) K st = selP (fz (d + 6000)) (WkK K st) (K st) := Eq.trans rfl rfl
theorem RK_no : RK fz (⟨none, op, ty, pos, after, g⟩ :: rest) K st = selP (fz 6000) (WkK K st) (K st) := Eq.trans rfl rfl
theorem RK_nil : RK fz [] K st = selP (fz 6000) (WkK K st) (K st) := Eq.trans rfl rfl
theorem region_t {Q : Exit → St → Prop} {id : Nat} {ops : Array Oper} : awp P fz (drawG P fz) (.region id ops true) Q st = drawG P fz ops st (Q .normal) := Eq.trans rfl rfl
end engine
attribute [congr] cg_selP cg_condV cg_gdS cg_gdT
/-- A call that waits for its contract. -/
abbrev Called (P : Program) (f : FuncId) (args : List AV) (b : Bool) (dst : Option Nat) (K : Eff → Prop) : Prop := ∃ r, ACalls1 P f args r ∧ (b = true ∨ pur r = true) ∧ K (resEff dst r)
/-- A call, waiting, whose result nobody will write. -/
abbrev CalledF (P : Program) (f : FuncId) (args : List AV) (b : Bool) (K : Eff → Prop) : Prop := ∃ r, ACalls1 P f args r ∧ (b = true ∨ pur r = true) ∧ K { val := view r }
theorem exE_calledF {P : Program} {f : FuncId} {args : List AV} {b : Bool} {B : Eff → Prop} : ExE (fun e => CalledF P f args b (fun e' => e' = e)) B = CalledF P f args b B := propext ⟨fun ⟨_, ⟨r, h, k, e⟩, b⟩ => ⟨r, h, k, e ▸ b⟩, fun ⟨r, h, k, b⟩ => ⟨_, ⟨r, h, k, rfl⟩, b⟩⟩
/-- A call that is handed memory, waiting. -/
abbrev CalledO (P : Program) (f : FuncId) (args xs : List AV) (ns : List Nat) (dst : Option Nat) (K : Eff → Prop) : Prop := ∃ args' r, ACalls2 P f args args' r ∧ (backL xs args').map (·.1) = ns ∧ K { resEff dst r with ws := (backL xs args').map fun p => (p.1, some p.2), rd := true }
theorem exE_called {P : Program} {f : FuncId} {args : List AV} {b : Bool} {dst : Option Nat} {B : Eff → Prop} : ExE (fun e => Called P f args b dst (fun e' => e' = e)) B = Called P f args b dst B := propext ⟨fun ⟨_, ⟨r, h, k, e⟩, b⟩ => ⟨r, h, k, e ▸ b⟩, fun ⟨r, h, k, b⟩ => ⟨_, ⟨r, h, k, rfl⟩, b⟩⟩
theorem exE_calledO {P : Program} {f : FuncId} {args xs : List AV} {ns : List Nat} {dst : Option Nat} {B : Eff → Prop} : ExE (fun e => CalledO P f args xs ns dst (fun e' => e' = e)) B = CalledO P f args xs ns dst B := propext ⟨fun ⟨_, ⟨a, r, h, k, e⟩, b⟩ => ⟨a, r, h, k, e ▸ b⟩, fun ⟨a, r, h, k, b⟩ => ⟨_, ⟨a, r, h, k, rfl⟩, b⟩⟩
theorem callOp_eq {P : Program} {st : St} {dst : Option Nat} {f : FuncId} {caps xs : List AV} {K : Eff → Prop} : callOp P st dst (.fn f caps) xs K = (xs.all (fun x => nrf (rsv st.o x)) = true ∧ Called P f (xs.map (pas st.o) ++ caps) (xs.all nrf) dst K) := Eq.trans rfl rfl
theorem callOpB_eq {P : Program} {st : St} {dst : Option Nat} {f : FuncId} {first xs : List AV} {K : Eff → Prop} : callOp P st dst (.fb f first) xs K = (xs.all (fun x => nrf (rsv st.o x)) = true ∧ Called P f (first ++ xs.map (pas st.o)) (xs.all nrf) dst K) := Eq.trans rfl rfl
theorem callOpF_eq {P : Program} {st : St} {dst : Option Nat} {f : FuncId} {caps xs : List AV} {K : Eff → Prop} : callOpF P st dst (.fn f caps) xs K = (xs.all (fun x => nrf (rsv st.o x)) = true ∧ CalledF P f (xs.map (pas st.o) ++ caps) (xs.all nrf) K) := Eq.trans rfl rfl
theorem callOwn_eq {P : Program} {st : St} {dst : Option Nat} {f : FuncId} {xs : List AV} {K : Eff → Prop} : callOwn P st dst (.fn f []) xs K = (xs.all (fun x => nrf (rsv2 st.o x)) = true ∧ (xs.flatMap nmB).Nodup ∧ CalledO P f (xs.map (rsv2 st.o)) xs (xs.flatMap nmB) dst K) := Eq.trans rfl rfl
/-- A call, waiting, of which is told what each result is. -/
abbrev CalledR (P : Program) (f : FuncId) (args xs : List AV) (ns : List Nat) (dst : Option Nat) (K : Eff → Prop) : Prop := ∃ R, ACalls P f args R ∧ ∀ as r, R as r → (backL xs as).map (·.1) = ns ∧ K { resEff dst r with ws := (backL xs as).map fun p => (p.1, some p.2), rd := true }
theorem callRel_eq {P : Program} {st : St} {dst : Option Nat} {f : FuncId} {xs : List AV} {K : Eff → Prop} : callRel P st dst (.fn f []) xs K = (xs.all (fun x => nrf (rsv2 st.o x)) = true ∧ (xs.flatMap nmB).Nodup ∧ CalledR P f (xs.map (rsv2 st.o)) xs (xs.flatMap nmB) dst K) := Eq.trans rfl rfl

/-- Some slots alone. -/
def keep : List Nat → List (Nat × AV) → List (Nat × AV)
  | [], _ => []
  | d :: ks, l => (d, asS l d) :: keep ks l
/-- Some names alone. -/
def keepO : List Nat → List (Nat × AV) → List (Nat × AV)
  | [], _ => []
  | d :: ks, l => match asO l d with
    | some x => (d, x) :: keepO ks l
    | none => keepO ks l
/-- The same, of a state whose other slots stay: `ks`, `kos`: the slots and names that stay; `S`, `O`: those that the loop's data tell. -/
theorem awp_loop2 {P : Program} {fz : Nat → Bool} {dr : Array Oper → St → (St → Prop) → Prop} {Q : Exit → St → Prop} {l ol : List (Nat × AV)} {n : Nat} {body : Code} {σ : Type} (ks kos : List Nat) (S O : σ → List (Nat × AV)) (C : σ → Prop) (μ : σ → Nat) (s0 : σ)
    (hw : Weak ⟨asS l, asO ol, n⟩ ⟨asS (S s0 ++ keep ks l), asO (O s0 ++ keepO kos ol), n⟩) (hc : C s0)
    (h : ∀ s, C s → awp P fz dr body (thn (Round (fun s => ⟨asS (S s ++ keep ks l), asO (O s ++ keepO kos ol), n⟩) C μ (μ s)) Q) ⟨asS (S s ++ keep ks l), asO (O s ++ keepO kos ol), n⟩) : awp P fz dr (.loop body) Q ⟨asS l, asO ol, n⟩ :=
  awp_loop (fun s => ⟨asS (S s ++ keep ks l), asO (O s ++ keepO kos ol), n⟩) C μ s0 hw hc h
theorem le_self {x : AV} : Le x x = True := eq_true (.refl x)
theorem leL_refl : ∀ l : List AV, LeL l l
  | [] => .nil
  | x :: l => .cons (.refl x) (leL_refl l)
theorem le_agg {l l' : List AV} : Le (.agg l) (.agg l') = LeL l l' := propext ⟨fun h => by cases h; exact leL_refl _; assumption, .agg⟩
theorem le_tup {l l' : List AV} : Le (.tup l) (.tup l') = LeL l l' := propext ⟨fun h => by cases h; exact leL_refl _; assumption, .tup⟩
theorem leL_nil : LeL [] [] = True := eq_true .nil
theorem leL_cons {x y : AV} {l l' : List AV} : LeL (x :: l) (y :: l') = (Le x y ∧ LeL l l') := propext ⟨fun h => by cases h; exact ⟨by assumption, by assumption⟩, fun h => .cons h.1 h.2⟩
theorem le_valv {v v' : Value} : Le (.val v) (.val v') = (v = v') := propext ⟨fun h => by cases h; rfl, fun h => by rw [h]; exact .refl _⟩
theorem le_junk {x : AV} : Le x .junk = True := eq_true (.junk x)
theorem le_ownF {sz : Nat} {nn : Bool} {l : List AV} : Le (.own sz nn l) (.own sz false l) = True := eq_true (.ownNn sz nn l)
theorem le_slF {sz : Nat} {nn : Bool} {l : List AV} : Le (.sl sz nn l) (.sl sz false l) = True := eq_true (.slNn sz nn l)
theorem le_nilOwn {sz : Nat} : Le (.val (.slice none 0 0)) (.own sz false []) = True := eq_true (.nilOwn sz)
theorem le_nilSl {sz : Nat} : Le (.val (.slice none 0 0)) (.sl sz false []) = True := eq_true (.nilSl sz)

theorem indexAddrOp_eq {P : Program} {st : St} {t : TypeId} {x ix : AV} {K : Eff → Prop} : indexAddrOp P st t x ix K = match ix, telem P t with
  | .val (.int _ i), some e => match slOf2 st x with
    | some (sz, _, l, nm) => tok P e = true ∧ tsize P e = sz ∧ 0 < sz ∧ 0 ≤ i ∧ (i.toNat + 1) * sz ≤ l.length ∧ (match nm with
      | none => K { val := .ip ((l.drop (i.toNat * sz)).take sz) }
      | some nm => K { val := .pt nm (i.toNat * sz), rd := true })
    | none => sfxIx P st e x i K
  | .val (.int _ i), none => tabIx P t x i K
  | _, _ => False := Eq.trans rfl rfl
theorem aload_eq {P : Program} {t : TypeId} {l : List AV} {off : Nat} {rd : Bool} {K : Eff → Prop} : aload P t l off rd K =
  (tok P t = true ∧ if tagg P t = true then off + tsize P t ≤ l.length ∧ ((l.drop off).take (tsize P t)).all cpy = true ∧ K { val := .agg ((l.drop off).take (tsize P t)), rd }
  else off < l.length ∧ cpy (l.getD off .junk) = true ∧ K { val := l.getD off .junk, rd }) := Eq.trans rfl rfl
attribute [simp low] indexAddrOp_eq aload_eq
attribute [simp ↓ high] awp_skip region_f RK_n RK_no RK_nil region_t awp_seq awp_cond awp_block awp_exit awp_ret thn_n thn_x thn_r inBlk_n inBlk_r inBlk_x inBlk_y opsA_nil opsA_n opsA_g gdS_some gdT_bool gdT_tup YK_eq NK_eq NK_none drawP_nil drawP_n drawP_g YD_eq ND_eq drawOps_n drawOps_g YO_eq NO_eq
  opv_tmp opv_fn opv_int opv_bool opv_str opv_sl opA_move opA_assign opA_pick opA_load opA_fieldAddr opA_nilCheck nilOp_pt nilOp_ip opA_indexAddr opA_extract opA_bin opA_un opA_conv opA_store opA_min opA_len opA_append opA_call drawG_eq condA_tmp condV_bool selP_t selP_f asS_hit asS_miss asO_hit asO_miss exE_eq exE_false
attribute [simp high] gdS_some gdT_bool gdT_tup selP_t selP_f condV_bool loadOp_ip lenOp_sl cmp_add cmp_sub cmp_mul cmp_eql cmp_neq cmp_lss cmp_leq cmp_gtr cmp_geq cmp_and cmp_or cmp_andNot pick_bool pick_t pick_f not_bool KK_val DK_val
attribute [simp low] KK_gen DK_gen DO_gen
attribute [simp] tabIx sfxIx sfxLen mapLen frz frzL frzS frzO gslot exE_eq exE_and exE_false exE_called exE_calledO exE_calledF keep keepO le_self le_agg le_tup leL_nil leL_cons le_valv le_junk le_ownF le_slF le_nilOwn le_nilSl dstB pinρ wk1 wkL wk wkN wkO injB boxOk st0 numbered opA aop opv ofVal asS_nil asO_nil put_mk put_mk_none node_mk node_mk_none ins del free_mk freeB noR noRL nrf nrfL ok_eq okS_eq okD_eq allL St.app St.ws St.nws newsOk
  cmpOp nilCmp nilK binOp' pbin intOp unOp' conv_int condA_eq pickOp boxOp cellsOf one loadOp fieldAddrOp lenOp extractOp makeFuncOp slOf slNode slOf2 slNode2 slVal appOld storeOp cpy minOp moveSliceOp buildSliceF buildSliceW opwOf appOldW appendW initA_snoc lastA_snoc initA_one lastA_one nmC makeMapOp lookupOp mapUpdateOp sliceOp2 capOp appendZ plainKey mpFind mpPut Instr.sameNow
  callOp_eq callOpB_eq callOpF_eq callOwn_eq callRel_eq endR nmB1 nmB back1 zipBack back2 backL rsv1 rsv2 st0O endO endJ jnk pin0 resEff opn opnL rsv rsvB rsvCell pas view viewL pur purL imm immL endQ resVars resVar oneOr Ret col col1 col2 nm1 nm2 nm3 appendOp appendOpF clearOp copyOp slicePfx used makeSliceOp sliceOp bnd indexOp buildOp buildSliceOp fillA
  firstDst plainOp drawOps_nil looks blind narrow looksV base Op.operands Call.operands

end Go.AM
