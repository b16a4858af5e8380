/-
  The abstract machine: how a walk is reckoned.
-/
import Derived.Test.YtnbembgjjepbpaaAmPure
set_option linter.unusedVariables false
set_option linter.unusedSimpArgs false
namespace Go.AM

/-! ### Saying less of a state -/
/-- `x`, with names turned by `ρ` (`none`: a nil slice), says no less than `y`. -/
def wk1 (ρ : Nat → Option Nat) : AV → AV → Prop
  | _, .junk => True
  | .ref a, .ref b => ρ b = some a
  | .val v, .ref b => v = nilSlice ∧ ρ b = none
  | .pt a i, .pt b j => ρ b = some a ∧ i = j
  | .sl sz nn l, .sl sz' nn' l' => sz = sz' ∧ l = l' ∧ (nn' = true → nn = true)
  | .val v, .sl _ nn' l' => v = nilSlice ∧ l' = [] ∧ nn' = false
  | .val v, .val v' => v = v'
  | .ip l, .ip l' => l = l'
  | .fn f l, .fn f' l' => f = f' ∧ l = l'
  | _, _ => False
def wkL (ρ : Nat → Option Nat) : List AV → List AV → Prop
  | [], [] => True
  | x :: xs, y :: ys => wk1 ρ x y ∧ wkL ρ xs ys
  | _, _ => False
def wk (ρ : Nat → Option Nat) : AV → AV → Prop
  | .agg l, .agg l' => wkL ρ l l'
  | .tup l, .tup l' => wkL ρ l l'
  | x, y => wk1 ρ x y
def wkN (ρ : Nat → Option Nat) : AV → AV → Prop
  | .own sz nn l, .own sz' nn' l' => sz = sz' ∧ l = l' ∧ (nn' = true → nn = true)
  | .box l, .box l' => wkL ρ l l'
  | .mp l, .mp l' => l = l'
  | _, _ => False

/-- The headers under the new names. -/
def hdrOf (ρ : Nat → Option Nat) (hdr : Nat → Option Value) (nm : Nat) : Option Value := match ρ nm with
  | some k => hdr k
  | none => some nilSlice

theorem wk1_rep {w : World} {I : Nat → Prop} {hdr : Nat → Option Value} {ρ : Nat → Option Nat} {x y : AV} {v : Value} (h : wk1 ρ x y) (hx : Rep w I hdr x [] v) : Rep w I (hdrOf ρ hdr) y [] v := by
  unfold wk1 at h
  split at h
  · simp [Rep]
  · simp only [Rep] at hx ⊢
    exact ⟨trivial, by unfold hdrOf; rw [h]; exact hx.2⟩
  · simp only [Rep] at hx ⊢
    exact ⟨trivial, by unfold hdrOf; rw [h.2, hx.2, h.1]⟩
  · simp only [Rep] at hx ⊢
    obtain ⟨_, u, a, h1, h2, h3⟩ := hx
    exact ⟨trivial, u, a, by unfold hdrOf; rw [h.1]; exact h1, h2, by rw [← h.2]; exact h3⟩
  · obtain ⟨rfl, rfl, hn⟩ := h
    simp only [Rep] at hx ⊢
    refine ⟨trivial, hx.2.imp (fun h => ⟨h.1, h.2.1, ?_⟩) ?_⟩
    · rename_i nn _ nn'
      cases nn' with
      | false => rfl
      | true => have := hn rfl; rw [h.2.2] at this; cases this
    · exact id
  · obtain ⟨rfl, rfl, rfl⟩ := h
    simp only [Rep] at hx ⊢
    exact ⟨trivial, .inl ⟨hx.2, trivial, trivial⟩⟩
  · subst h; simpa only [Rep] using hx
  · subst h; simpa only [Rep] using hx
  · obtain ⟨rfl, rfl⟩ := h; simpa only [Rep] using hx
  · exact h.elim

theorem wkL_rep {w : World} {I : Nat → Prop} {hdr : Nat → Option Value} {ρ : Nat → Option Nat} : ∀ {l l' : List AV} {vs : List Value}, wkL ρ l l' → RepL w I hdr l [] vs → RepL w I (hdrOf ρ hdr) l' [] vs
  | [], [], vs, _, hl => by simpa [RepL] using hl
  | x :: xs, y :: ys, vs, h, hl => by
    simp only [wkL] at h
    simp only [RepL] at hl ⊢
    obtain ⟨B₁, B₂, v, vs', e, rfl, h1, h2⟩ := hl
    obtain ⟨rfl, rfl⟩ : B₁ = [] ∧ B₂ = [] := by simpa using e.symm
    exact ⟨[], [], v, vs', rfl, rfl, wk1_rep h.1 h1, wkL_rep h.2 h2⟩
  | [], _ :: _, _, h, _ => by simp [wkL] at h
  | _ :: _, [], _, h, _ => by simp [wkL] at h

theorem wk_rep {w : World} {I : Nat → Prop} {hdr : Nat → Option Value} {ρ : Nat → Option Nat} {x y : AV} {v : Value} (h : wk ρ x y) (hx : Rep w I hdr x [] v) : Rep w I (hdrOf ρ hdr) y [] v := by
  unfold wk at h
  split at h
  · simp only [Rep] at hx ⊢
    obtain ⟨cs, e, hr⟩ := hx
    exact ⟨cs, e, wkL_rep h hr⟩
  · simp only [Rep] at hx ⊢
    obtain ⟨cs, e, hr⟩ := hx
    exact ⟨cs, e, wkL_rep h hr⟩
  · exact wk1_rep h hx

/-- Boxes' cells own nothing by themselves. -/
def boxOk : AV → Bool
  | .box l => l.all cpy
  | _ => true

theorem wkN_rep {w : World} {I : Nat → Prop} {hdr : Nat → Option Value} {ρ : Nat → Option Nat} {x y : AV} {B : List Nat} {v : Value} (h : wkN ρ x y) (hb : boxOk x = true) (hx : Rep w I hdr x B v) : Rep w I (hdrOf ρ hdr) y B v := by
  unfold wkN at h
  split at h
  · obtain ⟨rfl, rfl, hn⟩ := h
    simp only [Rep] at hx ⊢
    refine hx.imp (fun h => ⟨h.1, h.2.1, ?_, h.2.2.2⟩) id
    rename_i nn _ nn'
    cases nn' with
    | false => rfl
    | true => have := hn rfl; rw [h.2.2.1] at this; cases this
  · simp only [Rep] at hx ⊢
    obtain ⟨b, C, ty, B', hv, hB, hC, hr⟩ := hx
    have e := RepL.cpy_nil (by simpa [boxOk] using hb) hr
    subst e
    exact ⟨b, C, ty, [], hv, hB, hC, wkL_rep h hr⟩
  · subst h; simpa only [Rep] using hx
  · exact h.elim

theorem asS_at {l : List (Nat × AV)} {t : Nat} : asS l t = .junk ∨ ∃ p ∈ l, p.1 = t ∧ p.2 = asS l t := by
  induction l with
  | nil => exact .inl rfl
  | cons p l ih =>
    obtain ⟨k, y⟩ := p
    simp only [asS]
    split
    · rename_i e; exact .inr ⟨(k, y), by simp, e.symm, rfl⟩
    · rcases ih with h | ⟨q, hq, e⟩
      · exact .inl h
      · exact .inr ⟨q, by simp [hq], e⟩
theorem asO_at {l : List (Nat × AV)} {t : Nat} {x : AV} (h : asO l t = some x) : ∃ p ∈ l, p.1 = t ∧ p.2 = x := by
  induction l with
  | nil => simp [asO] at h
  | cons p l ih =>
    obtain ⟨k, y⟩ := p
    simp only [asO] at h
    split at h
    · rename_i e; cases h; exact ⟨(k, x), by simp, e.symm, rfl⟩
    · obtain ⟨q, hq, e⟩ := ih h
      exact ⟨q, by simp [hq], e⟩

/-- What a node says less: under another name, or a nil slice's. -/
def wkO (ρ : Nat → Option Nat) (ol : List (Nat × AV)) (nm : Nat) (y : AV) : Prop := match ρ nm with
  | some k => match asO ol k with
    | some x => wkN ρ x y ∧ boxOk x = true
    | none => False
  | none => match y with
    | .own _ nn l => nn = false ∧ l = []
    | _ => False

def injB (ρ : Nat → Option Nat) : List (Nat × AV) → Bool
  | [] => true
  | p :: l => l.all (fun q => match ρ p.1, ρ q.1 with | some a, some b => a != b || p.1 == q.1 | _, _ => true) && injB ρ l

theorem injB_spec {ρ : Nat → Option Nat} : ∀ {l : List (Nat × AV)}, injB ρ l = true → ∀ p, p ∈ l → ∀ q, q ∈ l → ∀ a, ρ p.1 = some a → ρ q.1 = some a → p.1 = q.1
  | [], _, p, hp, _, _, _, _, _ => by cases hp
  | r :: l, h, p, hp, q, hq, a, h1, h2 => by
    simp only [injB, Bool.and_eq_true, List.all_eq_true] at h
    rcases List.mem_cons.1 hp with rfl | hp <;> rcases List.mem_cons.1 hq with rfl | hq
    · rfl
    · have := h.1 q hq
      rw [h1, h2] at this
      simpa using this
    · have := h.1 p (by assumption)
      rw [h1, h2] at this
      have h3 : q.1 = p.1 := by simpa using this
      exact h3.symm
    · exact injB_spec h.2 p hp q hq a h1 h2

theorem weak_mk {l ol l' ol' : List (Nat × AV)} {n : Nat} (ρ : Nat → Option Nat) (hs : ∀ p, p ∈ l' → wk ρ (asS l p.1) p.2) (ho : ∀ p, p ∈ ol' → wkO ρ ol p.1 p.2) (hi : injB ρ ol' = true) :
    Weak ⟨asS l, asO ol, n⟩ ⟨asS l', asO ol', n⟩ := by
  rintro c a w ⟨I, hdr, F, h⟩
  have old : ∀ nm y, asO ol' nm = some y → (∃ k x, ρ nm = some k ∧ asO ol k = some x ∧ wkN ρ x y ∧ boxOk x = true) ∨ (ρ nm = none ∧ ∃ sz, y = .own sz false []) := by
    intro nm y hy
    obtain ⟨p, hp, rfl, rfl⟩ := asO_at hy
    have := ho p hp
    unfold wkO at this
    split at this
    · rename_i k hk
      split at this
      · rename_i x hx
        exact .inl ⟨k, x, hk, hx, this⟩
      · exact this.elim
    · rename_i hk
      split at this
      · rename_i sz nn m e
        obtain ⟨rfl, rfl⟩ := this
        exact .inr ⟨hk, sz, e⟩
      · exact this.elim
  have name : ∀ nm, asO ol' nm ≠ none → ∃ p, p ∈ ol' ∧ p.1 = nm := by
    intro nm hn
    obtain ⟨y, hy⟩ := Option.ne_none_iff_exists'.1 hn
    obtain ⟨p, hp, e, _⟩ := asO_at hy
    exact ⟨p, hp, e⟩
  refine ⟨I, hdrOf ρ hdr, fun nm => match ρ nm with | some k => F k | none => [], h.hI0, h.hIlt, h.hInew, h.fr, h.size, h.os, h.tape, h.out, h.df, h.n, fun t => ?_, ?_, ?_, ?_, ?_, ?_, ?_⟩
  · rcases asS_at (l := l') (t := t) with e | ⟨p, hp, e1, e2⟩
    · show Rep w I _ (asS l' t) [] _
      rw [e]; simp [Rep]
    · have := hs p hp
      rw [e1, e2] at this
      exact wk_rep this (h.sl t)
  · intro nm u hu
    unfold hdrOf at hu
    split at hu
    · exact h.hone _ u hu
    · cases hu; rfl
  · intro nm y hy
    rcases old nm y hy with ⟨k, x, hk, hx, hw, hb⟩ | ⟨hk, sz, rfl⟩
    · obtain ⟨u, hu, hr⟩ := h.ob k x hx
      refine ⟨u, by unfold hdrOf; rw [hk]; exact hu, ?_⟩
      simp only [hk]
      exact wkN_rep hw hb hr
    · refine ⟨nilSlice, by unfold hdrOf; rw [hk], ?_⟩
      simp [hk, Rep]
  · intro nm hy
    obtain ⟨y, hy⟩ := Option.ne_none_iff_exists'.1 hy
    rcases old nm y hy with ⟨k, x, hk, hx, _, _⟩ | ⟨hk, sz, rfl⟩
    · simp only [hk]
      exact h.nd k (by rw [show (St.mk (asS l) (asO ol) n).o k = asO ol k from rfl, hx]; simp)
    · simp only [hk]; exact List.nodup_nil
  · intro nm nm' hne hy hy' b hb hb'
    obtain ⟨y, hyy⟩ := Option.ne_none_iff_exists'.1 hy
    obtain ⟨y', hyy'⟩ := Option.ne_none_iff_exists'.1 hy'
    rcases old nm y hyy with ⟨k, x, hk, hx, _, _⟩ | ⟨hk, _, _⟩
    · rcases old nm' y' hyy' with ⟨k', x', hk', hx', _, _⟩ | ⟨hk', _, _⟩
      · simp only [hk] at hb
        simp only [hk'] at hb'
        have hkk : k ≠ k' := by
          intro e
          subst e
          obtain ⟨p, hp, e1⟩ := name nm hy
          obtain ⟨q, hq, e2⟩ := name nm' hy'
          have := injB_spec hi p hp q hq k (by rw [e1]; exact hk) (by rw [e2]; exact hk')
          exact hne (by rw [← e1, ← e2]; exact this)
        exact h.dj k k' hkk (by rw [show (St.mk (asS l) (asO ol) n).o k = asO ol k from rfl, hx]; simp) (by rw [show (St.mk (asS l) (asO ol) n).o k' = asO ol k' from rfl, hx']; simp) b hb hb'
      · simp only [hk'] at hb'; cases hb'
    · simp only [hk] at hb; cases hb
  · intro nm hy b hb
    obtain ⟨y, hyy⟩ := Option.ne_none_iff_exists'.1 hy
    rcases old nm y hyy with ⟨k, x, hk, hx, _, _⟩ | ⟨hk, _, _⟩
    · simp only [hk] at hb
      exact h.oi k (by rw [show (St.mk (asS l) (asO ol) n).o k = asO ol k from rfl, hx]; simp) b hb
    · simp only [hk] at hb; cases hb
  · intro nm hy b hb
    obtain ⟨y, hyy⟩ := Option.ne_none_iff_exists'.1 hy
    rcases old nm y hyy with ⟨k, x, hk, hx, _, _⟩ | ⟨hk, _, _⟩
    · simp only [hk] at hb
      exact h.oo k (by rw [show (St.mk (asS l) (asO ol) n).o k = asO ol k from rfl, hx]; simp) b hb
    · simp only [hk] at hb; cases hb


def ins (d : Nat) (x : AV) : List (Nat × AV) → List (Nat × AV)
  | [] => [(d, x)]
  | (k, y) :: l => if k = d then (d, x) :: l else (k, y) :: ins d x l
def del (d : Nat) : List (Nat × AV) → List (Nat × AV)
  | [] => []
  | (k, y) :: l => if k = d then del d l else (k, y) :: del d l

theorem asS_ins (d : Nat) (x : AV) : ∀ l, asS (ins d x l) = upd (asS l) d x := by
  intro l
  induction l with
  | nil => funext t; simp [ins, asS, upd]
  | cons p l ih =>
    obtain ⟨k, y⟩ := p
    funext t
    simp only [ins]
    split
    · rename_i e; subst e
      simp only [asS, upd]
      split <;> rfl
    · rename_i e
      simp only [asS, ih, upd]
      by_cases h1 : t = k
      · subst h1; simp [e]
      · simp [h1]

theorem asO_ins (d : Nat) (x : AV) : ∀ l, asO (ins d x l) = upd (asO l) d (some x) := by
  intro l
  induction l with
  | nil => funext t; simp [ins, asO, upd]
  | cons p l ih =>
    obtain ⟨k, y⟩ := p
    funext t
    simp only [ins]
    split
    · rename_i e; subst e
      simp only [asO, upd]
      split <;> rfl
    · rename_i e
      simp only [asO, ih, upd]
      by_cases h1 : t = k
      · subst h1; simp [e]
      · simp [h1]

theorem asO_del (d : Nat) : ∀ l, asO (del d l) = upd (asO l) d none := by
  intro l
  induction l with
  | nil => funext t; simp [del, asO, upd]
  | cons p l ih =>
    obtain ⟨k, y⟩ := p
    funext t
    simp only [del]
    split
    · rename_i e; subst e
      rw [ih]
      simp only [asO, upd]
      split <;> rfl
    · rename_i e
      simp only [asO, ih, upd]
      by_cases h1 : t = k
      · subst h1; simp [e]
      · simp [h1]

theorem put_mk (l : List (Nat × AV)) (o : Nat → Option AV) (n d : Nat) (x : AV) : St.put ⟨asS l, o, n⟩ (some d) x = ⟨asS (ins d x l), o, n⟩ := by
  simp [St.put, asS_ins]
theorem put_mk_none (st : St) (x : AV) : St.put st none x = st := rfl
theorem node_mk (s : Nat → AV) (l : List (Nat × AV)) (n nm : Nat) (x : AV) : St.node ⟨s, asO l, n⟩ nm (some x) = ⟨s, asO (ins nm x l), n⟩ := by
  simp [St.node, asO_ins]
theorem node_mk_none (s : Nat → AV) (l : List (Nat × AV)) (n nm : Nat) : St.node ⟨s, asO l, n⟩ nm none = ⟨s, asO (del nm l), n⟩ := by
  simp [St.node, asO_del]

def freeB (d : Nat) (l ol : List (Nat × AV)) : Bool := l.all (fun p => noR d p.2) && ol.all (fun p => noR d p.2)

theorem asS_mem {l : List (Nat × AV)} {t : Nat} : asS l t = .junk ∨ ∃ p ∈ l, p.2 = asS l t := by
  induction l with
  | nil => exact .inl rfl
  | cons p l ih =>
    obtain ⟨k, y⟩ := p
    simp only [asS]
    split
    · exact .inr ⟨(k, y), by simp, rfl⟩
    · rcases ih with h | ⟨q, hq, e⟩
      · exact .inl h
      · exact .inr ⟨q, by simp [hq], e⟩

theorem asO_mem {l : List (Nat × AV)} {t : Nat} {x : AV} (h : asO l t = some x) : ∃ p ∈ l, p.2 = x := by
  induction l with
  | nil => simp [asO] at h
  | cons p l ih =>
    obtain ⟨k, y⟩ := p
    simp only [asO] at h
    split at h
    · cases h; exact ⟨(k, x), by simp, rfl⟩
    · obtain ⟨q, hq, e⟩ := ih h
      exact ⟨q, by simp [hq], e⟩

theorem free_mk {l ol : List (Nat × AV)} {n d : Nat} (h : freeB d l ol = true) : St.free ⟨asS l, asO ol, n⟩ d = True := by
  simp only [freeB, Bool.and_eq_true, List.all_eq_true] at h
  refine eq_true ⟨fun t => ?_, fun nm x hx => ?_⟩
  · rcases asS_mem (l := l) (t := t) with e | ⟨p, hp, e⟩
    · show noR d (asS l t) = true
      rw [e]; rfl
    · show noR d (asS l t) = true
      rw [← e]; exact h.1 p hp
  · obtain ⟨p, hp, e⟩ := asO_mem hx
    rw [← e]; exact h.2 p hp

theorem asS_nil (t : Nat) : asS [] t = .junk := rfl
theorem asS_cons (k : Nat) (x : AV) (l : List (Nat × AV)) (t : Nat) : asS ((k, x) :: l) t = if t = k then x else asS l t := rfl
theorem asO_nil (t : Nat) : asO [] t = none := rfl
theorem asO_cons (k : Nat) (x : AV) (l : List (Nat × AV)) (t : Nat) : asO ((k, x) :: l) t = if t = k then some x else asO l t := rfl

/-- A count. -/
@[reducible] def iv (n : Int) : AV := .val (.int .i64 n)
@[reducible] def bv (b : Bool) : AV := .val (.bool b)


/-- **A function's contract, out of its walk**, its parts named. -/
theorem walk {P : Program} {f : FuncId} {fn : Func} {code : Code} {rs : List ResultVar} {n : Nat} {args : List AV} {r : AV} (fz : Nat → Bool) (hm : P.follows .mixedOrders = true)
    (hf : P.funcs[f]? = some fn) (hb : fn.body = some code) (hrs : fn.results.toList = rs) (hn : fn.ntmps = n) (hname : (fn.name == "runtime.NumGoroutine") = false) (himm : immL args = true) (hlen : args.length ≤ n) (hcb : codeB drawR code = true)
    (h : awp P fz (drawG P fz) code (endQ P rs r) (st0 args n)) : ACalls1 P f args r := by
  subst hrs
  subst hn
  exact acalls_of (R := drawR) (fun c id ops K st a w Q hR hQ hst hK => drawG_ok hm hR c id K st a w Q hQ hst hK) hf hb hname himm hlen hcb h

def allL {α : Type} (p : α → Prop) : List α → Prop
  | [] => True
  | x :: xs => p x ∧ allL p xs
theorem allL_iff {α : Type} {p : α → Prop} : ∀ {l : List α}, allL p l ↔ ∀ x, x ∈ l → p x
  | [] => by simp [allL]
  | x :: xs => by simp [allL, allL_iff (l := xs)]
theorem okS_eq (e : Eff) : e.okS = ((e.news.map (·.1)).Nodup ∧ allL (fun p => allL (fun q => noR p.1 q.2 = true) e.news) e.news ∧
    allL (fun p => allL (fun q : Nat × Option AV => p.1 ≠ q.1 ∧ match q.2 with | some x => noR p.1 x = true | none => True) e.ws) e.news) := by
  refine propext ?_
  simp only [Eff.okS, allL_iff]
  refine and_congr_right fun _ => and_congr_right fun _ => ?_
  constructor
  · intro h p hp q hq
    refine ⟨(h p hp q hq).1, ?_⟩
    split
    · rename_i x hx; exact (h p hp q hq).2 x hx
    · trivial
  · intro h p hp q hq
    refine ⟨(h p hp q hq).1, fun x hx => ?_⟩
    have := (h p hp q hq).2
    rw [hx] at this; exact this
theorem okD_eq (e : Eff) (st : St) (dst : Option Nat) : e.okD st dst = ((∀ d, dst = some d → d < st.n) ∧ e.okS ∧ allL (fun p => st.free p.1 ∧ st.o p.1 = none) e.news) := by
  simp only [Eff.okD, allL_iff]
/-- Two ways, by a truth value. -/
def brA (c b : Bool) (X Y : Prop) : Prop := (c = b → X) ∧ (c = !b → Y)
theorem brA_tt {X Y : Prop} : brA true true X Y = X := by simp [brA]
theorem brA_ff {X Y : Prop} : brA false false X Y = X := by simp [brA]
theorem brA_tf {X Y : Prop} : brA true false X Y = Y := by simp [brA]
theorem brA_ft {X Y : Prop} : brA false true X Y = Y := by simp [brA]
theorem brA_congr {c c' b : Bool} {X Y : Prop} (h : c = c') : brA c b X Y = brA c' b X Y := by rw [h]
theorem brA_t {c : Bool} {X Y : Prop} : brA c true X Y = ((c = true → X) ∧ (c = false → Y)) := rfl
theorem brA_f {c : Bool} {X Y : Prop} : brA c false X Y = ((c = false → X) ∧ (c = true → Y)) := rfl
theorem gdA_eq (ops : Array Oper) (o : Oper) (st : St) (yes no : St → Prop) : gdA ops o st yes no = match o.guard with
  | none => yes st
  | some (j, b) => match (ops[j]?).bind (·.dst) with
    | some g => match st.s g with
      | .val (.bool c) => brA c b (yes (st.put (some g) (.val (.bool b)))) (no (st.put (some g) (.val (.bool !b))))
      | _ => False
    | none => False := rfl
theorem condA_eq (st : St) (c : Operand) (yes no : St → Prop) : condA st c yes no = match c with
  | .tmp t => match st.s t with
    | .val (.bool b) => brA b true (yes (st.put (some t) (.val (.bool true)))) (no (st.put (some t) (.val (.bool false))))
    | _ => False
  | .const (.bool b) => brA b true (yes st) (no st)
  | _ => False := by
  unfold condA brA
  rfl
attribute [congr] brA_congr
attribute [simp ↓ high] brA_tt brA_ff brA_tf brA_ft
attribute [simp high] brA_tt brA_ff brA_tf brA_ft
attribute [simp low] brA_t brA_f
theorem opsA_nil {P : Program} {fz : Nat → Bool} {all : Array Oper} {st : St} {K : St → Prop} : opsA P fz all [] st K = K st := rfl
theorem opsA_cons {P : Program} {fz : Nat → Bool} {all : Array Oper} {o : Oper} {rest : List Oper} {l ol : List (Nat × AV)} {n : Nat} {K : St → Prop} : opsA P fz all (o :: rest) ⟨asS l, asO ol, n⟩ K =
    gdA all o ⟨asS l, asO ol, n⟩ (fun st => opA P fz o st fun e => e.ok st o.dst ∧ opsA P fz all rest (st.app o.dst e) K) (fun st => (∀ d, o.dst = some d → d < st.n) ∧ opsA P fz all rest (st.put o.dst .junk) K) := rfl
theorem drawOps_nil {P : Program} {fz : Nat → Bool} {all : Array Oper} {st₀ st : St} {recs : List Rec} {K : St → Prop} : drawOps P fz all st₀ [] recs st K =
    ((compat all recs = true ∧ textB all = true) ∧ allL (fun r : Rec => allL (fun p => st₀.free p.1 ∧ st₀.o p.1 = none) r.e.news) recs ∧ K st) := by
  simp only [drawOps, allL_iff]
theorem drawOps_cons {P : Program} {fz : Nat → Bool} {all : Array Oper} {st₀ : St} {o : Oper} {rest : List Oper} {recs : List Rec} {l ol : List (Nat × AV)} {n : Nat} {K : St → Prop} : drawOps P fz all st₀ (o :: rest) recs ⟨asS l, asO ol, n⟩ K =
    gdA all o ⟨asS l, asO ol, n⟩ (fun st => ∃ e, opA P fz o st (fun e' => e' = e) ∧ e.okD st o.dst ∧ drawOps P fz all st₀ rest (recs ++ [⟨looks st o, e⟩]) (st.app o.dst e) K)
      (fun st => (∀ d, o.dst = some d → d < st.n) ∧ drawOps P fz all st₀ rest (recs ++ [⟨[], { val := .junk }⟩]) (st.put o.dst .junk) K) := rfl

theorem drawP_nil {P : Program} {fz : Nat → Bool} {all : Array Oper} {st : St} {K : St → Prop} : drawP P fz all [] st K = K st := rfl
theorem drawP_cons {P : Program} {fz : Nat → Bool} {all : Array Oper} {o : Oper} {rest : List Oper} {l ol : List (Nat × AV)} {n : Nat} {K : St → Prop} : drawP P fz all (o :: rest) ⟨asS l, asO ol, n⟩ K =
    gdA all o ⟨asS l, asO ol, n⟩ (fun st => ∃ e, opA P fz o st (fun e' => e' = e) ∧ (e.news = [] ∧ e.ws = [] ∧ ∀ d, o.dst = some d → d < st.n) ∧ drawP P fz all rest (st.app o.dst e) K)
      (fun st => (∀ d, o.dst = some d → d < st.n) ∧ drawP P fz all rest (st.put o.dst .junk) K) := rfl
theorem drawG_cons {P : Program} {fz : Nat → Bool} {ops : Array Oper} {st : St} {K : St → Prop} : drawG P fz ops st K = bif ops.toList.all plainOp && !fz (firstDst ops.toList + 1000) then drawP P fz ops ops.toList st K else drawA P fz ops st K := rfl
theorem awp_skip {P : Program} {fz : Nat → Bool} {dr : Array Oper → St → (St → Prop) → Prop} {Q : Exit → St → Prop} {st : St} : awp P fz dr .skip Q st = Q .normal st := rfl
theorem awp_f {P : Program} {fz : Nat → Bool} {dr : Array Oper → St → (St → Prop) → Prop} {Q : Exit → St → Prop} {st : St} {id : Nat} {ops : Array Oper} : awp P fz dr (.region id ops false) Q st = opsA P fz ops ops.toList st (Q .normal) := rfl
theorem awp_t {P : Program} {fz : Nat → Bool} {dr : Array Oper → St → (St → Prop) → Prop} {Q : Exit → St → Prop} {st : St} {id : Nat} {ops : Array Oper} : awp P fz dr (.region id ops true) Q st = dr ops st (Q .normal) := rfl
theorem awp_seq {P : Program} {fz : Nat → Bool} {dr : Array Oper → St → (St → Prop) → Prop} {Q : Exit → St → Prop} {st : St} {x y : Code} : awp P fz dr (.seq x y) Q st = awp P fz dr x (thn (awp P fz dr y Q) Q) st := rfl
theorem awp_cond {P : Program} {fz : Nat → Bool} {dr : Array Oper → St → (St → Prop) → Prop} {Q : Exit → St → Prop} {st : St} {c : Operand} {x y : Code} : awp P fz dr (.cond c x y) Q st = condA st c (awp P fz dr x Q) (awp P fz dr y Q) := rfl
theorem awp_block {P : Program} {fz : Nat → Bool} {dr : Array Oper → St → (St → Prop) → Prop} {Q : Exit → St → Prop} {st : St} {id : Nat} {c : Code} : awp P fz dr (.block id c) Q st = awp P fz dr c (inBlk id Q) st := rfl
theorem awp_exit {P : Program} {fz : Nat → Bool} {dr : Array Oper → St → (St → Prop) → Prop} {Q : Exit → St → Prop} {st : St} {id : Nat} : awp P fz dr (.exit id) Q st = Q (.exit id) st := rfl
theorem awp_ret {P : Program} {fz : Nat → Bool} {dr : Array Oper → St → (St → Prop) → Prop} {Q : Exit → St → Prop} {st : St} : awp P fz dr .ret Q st = Q .ret st := rfl

/-- The end of a round. -/
def Round {σ : Type} (I : σ → St) (C : σ → Prop) (μ : σ → Nat) (n : Nat) (st' : St) : Prop := ∃ m st'', Weak st' st'' ∧ m < n ∧ ∃ s', st'' = I s' ∧ C s' ∧ μ s' = m

theorem Round.mk {σ : Type} {I : σ → St} {C : σ → Prop} {μ : σ → Nat} {n : Nat} {st' : St} (s' : σ) (hw : Weak st' (I s')) (hc : C s') (hm : μ s' < n) : Round I C μ n st' := ⟨_, _, hw, hm, s', rfl, hc, rfl⟩

/-- A loop: `I`: the state at each round's head, told by the loop's data; `C`: what is known of them; `μ`: what goes down. -/
theorem awp_loop {P : Program} {fz : Nat → Bool} {dr : Array Oper → St → (St → Prop) → Prop} {Q : Exit → St → Prop} {st : St} {body : Code} {σ : Type} (I : σ → St) (C : σ → Prop) (μ : σ → Nat) (s0 : σ)
    (hw : Weak st (I s0)) (hc : C s0) (h : ∀ s, C s → awp P fz dr body (thn (Round I C μ (μ s)) Q) (I s)) : awp P fz dr (.loop body) Q st := by
  refine ⟨fun n st => ∃ s, st = I s ∧ C s ∧ μ s = n, ⟨_, _, hw, s0, rfl, hc, rfl⟩, ?_⟩
  rintro n _ ⟨s, rfl, hs, rfl⟩
  exact h s hs

attribute [simp] awp_skip awp_f awp_t awp_seq awp_cond awp_block awp_exit awp_ret wk1 wkL wk wkN wkO injB boxOk st0 numbered opsA_nil opsA_cons gdA_eq opA aop opv ofVal asS_nil asS_cons asO_nil asO_cons put_mk put_mk_none node_mk node_mk_none ins del free_mk freeB noR noRL nrf nrfL Eff.ok okS_eq okD_eq allL St.app St.ws St.nws newsOk
  binOp' pbin intOp unOp' convOp condA_eq thn inBlk pickOp boxOp cellsOf one loadOp aload fieldAddrOp indexAddrOp lenOp extractOp makeFuncOp slOf slNode slVal appOld storeOp cpy
  callOp resEff opn opnL rsv rsvCell pas view viewL pur purL imm immL endQ resVars resVar oneOr Ret col col1 col2 nm1 nm2 nm3 appendOp used makeSliceOp sliceOp bnd indexOp buildOp buildSliceOp fillA
  drawG_cons firstDst drawP_nil drawP_cons plainOp drawA drawOps_nil drawOps_cons looks looksV base Op.operands Call.operands

end Go.AM
