/-
  The abstract machine: a statement whose order Go leaves open. One walk in the text's order serves every order, if operations that are not ordered do not look at what the others change.
-/
import Derived.Test.YtnimmbjbinpajaaDoorAmCode
set_option linter.unusedVariables false
set_option linter.unusedSimpArgs false
namespace Go.AM

/-- The names that a value leads to at once. -/
def base : AV → List Nat
  | .ref nm => [nm]
  | .pt nm _ => [nm]
  | .sfx nm _ => [nm]
  | .pfx nm _ => [nm]
  | .agg l => l.flatMap fun | .ref nm => [nm] | .pt nm _ => [nm] | .sfx nm _ => [nm] | _ => []
  | .tup l => l.flatMap fun | .ref nm => [nm] | .pt nm _ => [nm] | .sfx nm _ => [nm] | _ => []
  | _ => []

mutual
/-- All the names that stand in a value. -/
def ments : AV → List Nat
  | .ref nm => [nm]
  | .pt nm _ => [nm]
  | .sfx nm _ => [nm]
  | .pfx nm _ => [nm]
  | .agg l => mentsL l
  | .tup l => mentsL l
  | .fno _ l => mentsL l
  | .box l => mentsL l
  | .opw _ l => mentsL l
  | _ => []
def mentsL : List AV → List Nat
  | [] => []
  | x :: xs => ments x ++ mentsL xs
end

mutual
theorem noR_of_ments (d : Nat) : ∀ x : AV, d ∉ ments x → noR d x = true
  | .junk, _ => rfl
  | .val _, _ => rfl
  | .agg l, h => by simp only [ments, noR] at h ⊢; exact noRL_of_ments d l h
  | .tup l, h => by simp only [ments, noR] at h ⊢; exact noRL_of_ments d l h
  | .fno f l, h => by simp only [ments, noR] at h ⊢; exact noRL_of_ments d l h
  | .sl .., _ => rfl
  | .ip _, _ => rfl
  | .fn .., _ => rfl
  | .fb .., _ => rfl
  | .own .., _ => rfl
  | .box l, h => by simp only [ments, noR] at h ⊢; exact noRL_of_ments d l h
  | .opw _ l, h => by simp only [ments, noR] at h ⊢; exact noRL_of_ments d l h
  | .mp _, _ => rfl
  | .ref nm, h => by simp [ments] at h; simp [noR]; exact fun e => h e.symm
  | .pt nm _, h => by simp [ments] at h; simp [noR]; exact fun e => h e.symm
  | .sfx nm _, h => by simp [ments] at h; simp [noR]; exact fun e => h e.symm
  | .pfx nm _, h => by simp [ments] at h; simp [noR]; exact fun e => h e.symm
theorem noRL_of_ments (d : Nat) : ∀ l : List AV, d ∉ mentsL l → noRL d l = true
  | [], _ => rfl
  | x :: xs, h => by
    simp only [mentsL, List.mem_append, not_or, noRL, Bool.and_eq_true] at h ⊢
    exact ⟨noR_of_ments d x h.1, noRL_of_ments d xs h.2⟩
end

/-- What a captured variable leads to. -/
def lookC (st : St) : AV → List Nat
  | .pt nm _ => nm :: (match st.o nm with | some (.box m) => mentsL m | _ => [])
  | x => base x
/-- What an operation looks at, beside its temporaries: nodes. -/
def looksV (st : St) (x : AV) : List Nat := match x with
  | .pt nm off => nm :: (match st.o nm with | some (.box l) => mentsL l | _ => [])
  | .fno _ l => l.flatMap (lookC st)
  | x => base x
/-- It looks at its temporaries alone. -/
def blind (op : Op) : Bool := match op with
  | .move _ => true
  | .assign _ => true
  | .fieldAddr _ _ _ => true
  | .nilCheck _ => true
  | _ => false
/-- It looks at the nodes that its temporaries name, and no further. -/
def narrow (op : Op) : Bool := match op with
  | .load _ _ => true
  | .store _ _ _ => true
  | _ => false
def looks (st : St) (o : Oper) : List Nat := bif blind o.op then [] else bif narrow o.op then o.op.operands.toList.flatMap (fun x => base (opv st x)) else o.op.operands.toList.flatMap fun x => looksV st (opv st x)
theorem mem_looks {st : St} {o : Oper} (hb : blind o.op = false) (hw : narrow o.op = false) {x : Operand} (hx : x ∈ o.op.operands.toList) {nm : Nat} (hm : nm ∈ looksV st (opv st x)) : nm ∈ looks st o := by
  unfold looks; rw [hb, hw]; exact List.mem_flatMap.2 ⟨x, hx, hm⟩
theorem mem_looksB {st : St} {o : Oper} (hb : blind o.op = false) (hw : narrow o.op = true) {x : Operand} (hx : x ∈ o.op.operands.toList) {nm : Nat} (hm : nm ∈ base (opv st x)) : nm ∈ looks st o := by
  unfold looks; rw [hb, hw]; exact List.mem_flatMap.2 ⟨x, hx, hm⟩

/-- Its record: what it looked at, what it did. -/
structure Rec where
  l : List Nat
  e : Eff

def Rec.news (r : Rec) : List Nat := r.e.news.map (·.1)
def Rec.chg (r : Rec) : List Nat := r.news ++ r.e.ws.map (·.1)
def Rec.ment (r : Rec) : List Nat := ments r.e.val ++ r.e.news.flatMap (fun p => ments p.2) ++ r.e.ws.flatMap (fun p => match p.2 with | some x => ments x | none => [])

/-- The operation waits for the other one, if need be by way of third ones. -/
def ancB (ops : Array Oper) : Nat → Nat → Nat → Bool
  | 0, _, _ => false
  | f + 1, i, j => match ops[j]? with
    | none => false
    | some o => o.after.any fun e => Region.binds .any e && (e.on == i || ancB ops f i e.on)

def dis (a b : List Nat) : Bool := a.all fun x => !b.contains x

/-- Two operations in either order. -/
def pairB (ops : Array Oper) (i j : Nat) (r s : Rec) : Bool :=
  (match ops[i]?, ops[j]? with | some x, some y => x.apart ops y && y.apart ops x | _, _ => false) &&
  dis r.chg s.l && dis s.chg r.l && dis r.chg s.chg && dis r.news s.ment && dis s.news r.ment

/-- What a later operation makes, the earlier one knows nothing of. -/
def lateB (r s : Rec) : Bool := dis s.news r.ment && dis s.news r.chg

/-- No operation mentions what another one makes, but where it waits for it. -/
def compat (ops : Array Oper) (recs : List Rec) : Bool :=
  recs.length == ops.size &&
  recs.zipIdx.all fun (r, i) => recs.zipIdx.all fun (s, j) => i == j || (bif ancB ops ops.size i j then lateB r s else bif ancB ops ops.size j i then lateB s r else pairB ops i j r s)

/-- And the text's order is one of the orders. -/
def textB (ops : Array Oper) : Bool := ops.toList.zipIdx.all fun (o, k) => o.after.all fun e => !Region.binds .any e || e.on < k

/-- What an effect needs whatever the state is. -/
def Eff.okS (e : Eff) : Prop := (e.news.map (·.1)).Nodup ∧ (∀ p, p ∈ e.news → ∀ q, q ∈ e.news → noR p.1 q.2 = true) ∧ ∀ p, p ∈ e.news → ∀ q, q ∈ e.ws → p.1 ≠ q.1 ∧ ∀ x, q.2 = some x → noR p.1 x = true
def Eff.okD (e : Eff) (st : St) (dst : Option Nat) : Prop := (∀ d, dst = some d → d < st.n) ∧ e.okS ∧ ∀ p, p ∈ e.news → st.free p.1 ∧ st.o p.1 = none

def drawOps (P : Program) (fz : Nat → Bool) (all : Array Oper) (st₀ : St) : List Oper → List Rec → St → (St → Prop) → Prop
  | [], recs, st, K => (compat all recs = true ∧ textB all = true) ∧ (∀ r, r ∈ recs → ∀ p, p ∈ r.e.news → st₀.free p.1 ∧ st₀.o p.1 = none) ∧ K st
  | o :: rest, recs, st, K => gdA all o st (fun st => ∃ e, opA P fz o st (fun e' => e' = e) ∧ e.okD st o.dst ∧ drawOps P fz all st₀ rest (recs ++ [⟨looks st o, e⟩]) (st.app o.dst e) K)
      (fun st => (∀ d, o.dst = some d → d < st.n) ∧ drawOps P fz all st₀ rest (recs ++ [⟨[], { val := .val undef }⟩]) (st.put o.dst (.val undef)) K)

def drawA (P : Program) (fz : Nat → Bool) (ops : Array Oper) (st : St) (K : St → Prop) : Prop := drawOps P fz ops st ops.toList [] st K

/-! ### Effects on states -/
section
variable {P : Program} {fz : Nat → Bool} {st st' : St}

theorem St.ext' {a b : St} (h1 : a.s = b.s) (h2 : a.o = b.o) (h3 : a.n = b.n) : a = b := by cases a; cases b; simp_all

theorem ws_s (st : St) (l : List (Nat × Option AV)) : (st.ws l).s = st.s := by
  induction l generalizing st with
  | nil => rfl
  | cons p l ih => simp only [St.ws, ih]; rfl
theorem nws_s (st : St) (l : List (Nat × AV)) : (st.nws l).s = st.s := by
  induction l generalizing st with
  | nil => rfl
  | cons p l ih => simp only [St.nws, ih]; rfl
theorem nws_n (st : St) (l : List (Nat × AV)) : (st.nws l).n = st.n := by
  induction l generalizing st with
  | nil => rfl
  | cons p l ih => simp only [St.nws, ih]; rfl

/-- Nodes behind changes: as before, where no change has the name. -/
theorem ws_o_ne (st : St) (l : List (Nat × Option AV)) (nm : Nat) (h : nm ∉ l.map (·.1)) : (st.ws l).o nm = st.o nm := by
  induction l generalizing st with
  | nil => rfl
  | cons p l ih =>
    simp only [List.map_cons, List.mem_cons, not_or] at h
    simp only [St.ws]
    rw [ih _ h.2]
    simp [St.node, upd, h.1]
theorem nws_o_ne (st : St) (l : List (Nat × AV)) (nm : Nat) (h : nm ∉ l.map (·.1)) : (st.nws l).o nm = st.o nm := by
  induction l generalizing st with
  | nil => rfl
  | cons p l ih =>
    simp only [List.map_cons, List.mem_cons, not_or] at h
    simp only [St.nws]
    rw [ih _ h.2]
    simp [St.node, upd, h.1]

/-- What changes do depends on the names alone. -/
theorem ws_o_in (l : List (Nat × Option AV)) (nm : Nat) (h : nm ∈ l.map (·.1)) (st st' : St) : (st.ws l).o nm = (st'.ws l).o nm := by
  induction l generalizing st st' with
  | nil => cases h
  | cons p l ih =>
    simp only [St.ws]
    by_cases hm : nm ∈ l.map (·.1)
    · exact ih hm _ _
    · simp only [List.map_cons, List.mem_cons] at h
      have e : nm = p.1 := h.resolve_right hm
      rw [ws_o_ne _ _ _ hm, ws_o_ne _ _ _ hm]
      simp [St.node, upd, e]
theorem nws_o_in (l : List (Nat × AV)) (nm : Nat) (h : nm ∈ l.map (·.1)) (st st' : St) : (st.nws l).o nm = (st'.nws l).o nm := by
  induction l generalizing st st' with
  | nil => cases h
  | cons p l ih =>
    simp only [St.nws]
    by_cases hm : nm ∈ l.map (·.1)
    · exact ih hm _ _
    · simp only [List.map_cons, List.mem_cons] at h
      have e : nm = p.1 := h.resolve_right hm
      rw [nws_o_ne _ _ _ hm, nws_o_ne _ _ _ hm]
      simp [St.node, upd, e]

def Eff.chg (e : Eff) : List Nat := e.news.map (·.1) ++ e.ws.map (·.1)

theorem app_o_ne (st : St) (dst : Option Nat) (e : Eff) (nm : Nat) (h : nm ∉ e.chg) : (st.app dst e).o nm = st.o nm := by
  simp only [Eff.chg, List.mem_append, not_or] at h
  have : (st.app dst e).o = ((st.ws e.ws).nws e.news).o := by unfold St.app St.put; cases dst <;> rfl
  rw [this, nws_o_ne _ _ _ h.1, ws_o_ne _ _ _ h.2]
theorem app_o_in (dst : Option Nat) (e : Eff) (nm : Nat) (h : nm ∈ e.chg) (st st' : St) : (st.app dst e).o nm = (st'.app dst e).o nm := by
  have key : ∀ s : St, (s.app dst e).o = ((s.ws e.ws).nws e.news).o := fun s => by unfold St.app St.put; cases dst <;> rfl
  rw [key, key]
  by_cases h1 : nm ∈ e.news.map (·.1)
  · exact nws_o_in _ _ h1 _ _
  · rw [nws_o_ne _ _ _ h1, nws_o_ne _ _ _ h1]
    simp only [Eff.chg, List.mem_append] at h
    exact ws_o_in _ _ (h.resolve_left h1) _ _
theorem app_s (st : St) (dst : Option Nat) (e : Eff) (t : Nat) : (st.app dst e).s t = if dst = some t then e.val else st.s t := by
  unfold St.app St.put
  cases dst with
  | none => simp [nws_s, ws_s]
  | some d =>
    simp only [upd, nws_s, ws_s]
    by_cases h : t = d
    · subst h; simp
    · rw [if_neg h, if_neg (by simp; exact fun e => h e.symm)]
theorem app_n (st : St) (dst : Option Nat) (e : Eff) : (st.app dst e).n = st.n := by
  unfold St.app St.put; cases dst <;> simp [nws_n, ws_n]

/-- Effects of two operations in either order. -/
theorem app_comm (st : St) {d d' : Option Nat} {e e' : Eff} (hd : ∀ t, d = some t → d' ≠ some t) (hc : ∀ nm, nm ∈ e.chg → nm ∉ e'.chg) : (st.app d e).app d' e' = (st.app d' e').app d e := by
  refine St.ext' (funext fun t => ?_) (funext fun nm => ?_) (by simp [app_n])
  · rw [app_s, app_s, app_s, app_s]
    by_cases h1 : d = some t
    · rw [if_neg (hd t h1), if_pos h1, if_pos h1]
    · rw [if_neg h1, if_neg h1]
  · by_cases h1 : nm ∈ e.chg
    · have h2 := hc nm h1
      rw [app_o_ne _ _ _ _ h2]
      exact app_o_in _ _ _ h1 _ _
    · rw [app_o_ne (st.app d' e') d e nm h1]
      by_cases h2 : nm ∈ e'.chg
      · exact app_o_in _ _ _ h2 _ _
      · rw [app_o_ne _ _ _ _ h2, app_o_ne _ _ _ _ h2, app_o_ne _ _ _ _ h1]

theorem node_free {st : St} {nm d : Nat} {x : Option AV} (h : st.free d) (hx : ∀ y, x = some y → noR d y = true) : (st.node nm x).free d := by
  refine ⟨h.1, h.2.1, fun k y hy => ?_⟩
  simp only [St.node, upd] at hy
  split at hy
  · exact hx y hy
  · exact h.2.2 k y hy

theorem ws_free {l : List (Nat × Option AV)} : ∀ {st : St} {d : Nat}, st.free d → (∀ q, q ∈ l → ∀ x, q.2 = some x → noR d x = true) → (st.ws l).free d := by
  induction l with
  | nil => intro st d h _; exact h
  | cons p l ih => intro st d h hl; exact ih (node_free h (hl p (by simp))) (fun q hq => hl q (by simp [hq]))
theorem nws_free {l : List (Nat × AV)} : ∀ {st : St} {d : Nat}, st.free d → (∀ q, q ∈ l → noR d q.2 = true) → (st.nws l).free d := by
  induction l with
  | nil => intro st d h _; exact h
  | cons p l ih => intro st d h hl; exact ih (node_free h (fun y hy => by cases hy; exact hl p (by simp))) (fun q hq => hl q (by simp [hq]))

theorem put_free {st : St} {d : Nat} {dst : Option Nat} {x : AV} (h : st.free d) (hx : noR d x = true) : (st.put dst x).free d := by
  cases dst with
  | none => exact h
  | some t =>
    refine ⟨h.1, fun k => ?_, h.2.2⟩
    simp only [St.put, upd]
    split
    · exact hx
    · exact h.2.1 k

theorem newsOk_of {l : List (Nat × AV)} : ∀ {st : St}, (l.map (·.1)).Nodup → (∀ p, p ∈ l → ∀ q, q ∈ l → noR p.1 q.2 = true) → (∀ p, p ∈ l → st.free p.1 ∧ st.o p.1 = none) → newsOk st l := by
  induction l with
  | nil => intro st _ _ _; trivial
  | cons p l ih =>
    intro st hn hr hf
    simp only [List.map_cons, List.nodup_cons] at hn
    refine ⟨(hf p (by simp)).1, (hf p (by simp)).2, hr p (by simp) p (by simp), ih hn.2 (fun a ha b hb => hr a (by simp [ha]) b (by simp [hb])) fun q hq => ⟨node_free (hf q (by simp [hq])).1 (fun y hy => by cases hy; exact hr q (by simp [hq]) p (by simp)), ?_⟩⟩
    have hne : q.1 ≠ p.1 := fun e => hn.1 (e ▸ List.mem_map_of_mem hq)
    simp only [St.node, upd]
    rw [if_neg hne]
    exact (hf q (by simp [hq])).2

theorem okD_ok {e : Eff} {st : St} {dst : Option Nat} (h : e.okD st dst) : e.ok st dst := by
  obtain ⟨h1, ⟨h2, h3, h4⟩, h5⟩ := h
  refine ⟨h1, newsOk_of h2 h3 fun p hp => ⟨ws_free (h5 p hp).1 (fun q hq => (h4 p hp q hq).2), ?_⟩⟩
  rw [ws_o_ne]
  · exact (h5 p hp).2
  · intro hm
    obtain ⟨q, hq, e⟩ := List.mem_map.1 hm
    exact (h4 p hp q hq).1 e.symm

/-! ### An operation looks at its temporaries and their nodes alone -/
/-- Two states that an operation cannot tell apart. -/
structure Alike (st st' : St) (o : Oper) : Prop where
  sl : ∀ x, x ∈ o.op.operands.toList → opv st' x = opv st x
  ob : ∀ nm, nm ∈ looks st o → st'.o nm = st.o nm

theorem looksV_base {st : St} {x : AV} {nm : Nat} (h : nm ∈ base x) : nm ∈ looksV st x := by
  unfold looksV
  split
  · simp [base] at h; simp [h]
  · simp [base] at h
  · exact h

theorem slOf_alike {st st' : St} {x : AV} (h : ∀ nm, nm ∈ looksV st x → st'.o nm = st.o nm) : slOf st' x = slOf st x := by
  cases x <;> try rfl
  rename_i nm
  simp only [slOf]
  rw [h nm (looksV_base (by simp [base]))]

theorem slOf2_alike {st st' : St} {x : AV} (h : ∀ nm, nm ∈ looksV st x → st'.o nm = st.o nm) : slOf2 st' x = slOf2 st x := by
  cases x with
  | ref nm =>
    simp only [slOf2]
    rw [h nm (looksV_base (by simp [base]))]
  | _ => exact slOf_alike h

theorem sfxIx_alike {P : Program} {st st' : St} {e : TypeId} {x : AV} {i : Int} {K : Eff → Prop} (h : ∀ nm, nm ∈ looksV st x → st'.o nm = st.o nm) : sfxIx P st' e x i K = sfxIx P st e x i K := by
  unfold sfxIx
  split
  · rw [h _ (looksV_base (by simp [base]))]
  · rfl
theorem sfxLen_alike {st st' : St} {x : AV} {K : Eff → Prop} (h : ∀ nm, nm ∈ looksV st x → st'.o nm = st.o nm) : sfxLen st' x K = sfxLen st x K := by
  unfold sfxLen
  split
  · rw [h _ (looksV_base (by simp [base]))]
  · rfl
theorem indexAddr_alike {P : Program} {st st' : St} {t : TypeId} {x ix : AV} {K : Eff → Prop} (h : ∀ nm, nm ∈ looksV st x → st'.o nm = st.o nm) : indexAddrOp P st' t x ix K = indexAddrOp P st t x ix K := by
  unfold indexAddrOp
  rw [slOf2_alike h]
  simp only [sfxIx_alike h]
theorem conv_alike {P : Program} {st st' : St} {d : Option Nat} {t t' : TypeId} {x : AV} {K : Eff → Prop} (h : ∀ nm, nm ∈ looksV st x → st'.o nm = st.o nm) : convOp P st' d t t' x K = convOp P st d t t' x K := by
  unfold convOp
  split
  · rfl
  · rfl
  · unfold convB
    rw [slOf_alike h]
theorem mapLen_alike {P : Program} {st st' : St} {t : TypeId} {x : AV} {K : Eff → Prop} (h : ∀ nm, nm ∈ looksV st x → st'.o nm = st.o nm) : mapLen P st' t x K = mapLen P st t x K := by
  unfold mapLen
  split
  · rw [h _ (looksV_base (by simp [base]))]
  · rfl
theorem len_alike {P : Program} {st st' : St} {t : TypeId} {x : AV} {K : Eff → Prop} (h : ∀ nm, nm ∈ looksV st x → st'.o nm = st.o nm) : lenOp P st' t x K = lenOp P st t x K := by
  have e := slOf2_alike h
  have e2 := fun K => sfxLen_alike (K := K) h
  have e3 := fun K => mapLen_alike (P := P) (t := t) (K := K) h
  unfold lenOp
  split
  · rfl
  · rw [e]
    simp only [e2, e3]
theorem appOld_alike {st st' : St} {x : AV} (h : ∀ nm, nm ∈ looksV st x → st'.o nm = st.o nm) : appOld st' x = appOld st x := by
  cases x <;> try rfl
  rename_i nm
  simp only [appOld]
  rw [h nm (looksV_base (by simp [base]))]

theorem rsvCell_alike {o o' : Nat → Option AV} {x : AV} (h : ∀ nm, nm ∈ ments x → o' nm = o nm) : rsvCell o' x = rsvCell o x := by
  cases x <;> try rfl
  rename_i nm
  simp only [rsvCell]
  rw [h nm (by simp [ments])]

theorem rsvCells_alike {o o' : Nat → Option AV} : ∀ {l : List AV}, (∀ nm, nm ∈ mentsL l → o' nm = o nm) → l.map (rsvCell o') = l.map (rsvCell o)
  | [], _ => rfl
  | x :: xs, h => by
    simp only [mentsL, List.mem_append] at h
    rw [List.map_cons, List.map_cons, rsvCell_alike (fun nm hm => h nm (.inl hm)), rsvCells_alike (fun nm hm => h nm (.inr hm))]

theorem rsvCells_alike' {o o' : Nat → Option AV} {l : List AV} (h : ∀ nm, nm ∈ (l.flatMap fun | .ref nm => [nm] | .pt nm _ => [nm] | .sfx nm _ => [nm] | _ => [] : List Nat) → o' nm = o nm) : l.map (rsvCell o') = l.map (rsvCell o) := by
  induction l with
  | nil => rfl
  | cons x xs ih =>
    simp only [List.flatMap_cons, List.mem_append] at h
    rw [List.map_cons, List.map_cons, ih (fun nm hm => h nm (.inr hm))]
    congr 1
    cases x <;> try rfl
    rename_i nm
    simp only [rsvCell]
    rw [h nm (.inl (by simp))]

theorem rsv_alike {st st' : St} {x : AV} (h : ∀ nm, nm ∈ looksV st x → st'.o nm = st.o nm) : rsv st'.o x = rsv st.o x := by
  cases x with
  | ref nm =>
    simp only [rsv]
    rw [h nm (looksV_base (by simp [base]))]
  | pt nm off =>
    cases off with
    | zero =>
      have h0 := h nm (looksV_base (by simp [base]))
      simp only [rsv]
      rw [h0]
      cases ho : st.o nm with
      | none => rfl
      | some y =>
        cases y <;> try rfl
        rename_i l
        simp only
        rw [rsvCells_alike (fun k hk => h k (by simp [looksV, ho, hk]))]
    | succ n => rfl
  | agg l =>
    simp only [rsv]
    rw [rsvCells_alike' (fun nm hm => h nm (looksV_base (by simpa [base] using hm)))]
  | tup l =>
    simp only [rsv]
    rw [rsvCells_alike' (fun nm hm => h nm (looksV_base (by simpa [base] using hm)))]
  | fno f l =>
    simp only [rsv]
    congr 1
    refine List.map_congr_left fun y hy => ?_
    have hl : ∀ nm, nm ∈ lookC st y → st'.o nm = st.o nm := fun nm hm => h nm (by
      simp only [looksV, List.mem_flatMap]
      exact ⟨y, hy, hm⟩)
    cases y with
    | ref nm =>
      simp only [rsvB]
      rw [hl nm (by simp [lookC, base])]
    | pt nm off =>
      cases off with
      | zero =>
        have h0 := hl nm (by simp [lookC])
        simp only [rsvB]
        rw [h0]
        cases ho : st.o nm with
        | none => rfl
        | some y =>
          cases y <;> try rfl
          rename_i m
          simp only
          rw [rsvCells_alike (fun k hk => hl k (by simp [lookC, ho, hk]))]
      | succ n => rfl
    | _ => rfl
  | _ => rfl

theorem rsv2_alike {st st' : St} {x : AV} (h : ∀ nm, nm ∈ looksV st x → st'.o nm = st.o nm) : rsv2 st'.o x = rsv2 st.o x := by
  cases x with
  | ref nm =>
    simp only [rsv2, rsv1]
    rw [h nm (looksV_base (by simp [base]))]
  | pt nm off =>
    cases off with
    | zero =>
      have h0 := h nm (looksV_base (by simp [base]))
      simp only [rsv2]
      rw [h0]
    | succ n => rfl
  | agg l =>
    simp only [rsv2]
    have : l.map (rsv1 st'.o) = l.map (rsv1 st.o) := rsvCells_alike' (fun nm hm => h nm (looksV_base (by simpa [base] using hm)))
    rw [this]
  | _ => rfl

theorem cmpOp_alike {P : Program} {st st' : St} {op : BinOp} {t : TypeId} {x y : AV} {K : Eff → Prop} (h : ∀ nm, nm ∈ looksV st x → st'.o nm = st.o nm) : cmpOp P st' op t x y K = cmpOp P st op t x y K := by
  unfold cmpOp
  split
  · unfold nilCmp
    rw [slOf_alike h]
  · rfl

theorem loadOp_alike {t : TypeId} {x : AV} {K : Eff → Prop} (h : ∀ nm, nm ∈ base x → st'.o nm = st.o nm) : loadOp P st' t x K = loadOp P st t x K := by
  cases x <;> try rfl
  rename_i nm off
  simp only [loadOp]
  rw [h nm (by simp [base])]

theorem rsv1s_alike {x : AV} (h : ∀ nm, nm ∈ base x → st'.o nm = st.o nm) {l : List AV} (hl : cellsOf x = some l) : l.map (rsv1 st'.o) = l.map (rsv1 st.o) := by
  cases x with
  | agg m =>
    simp only [cellsOf, Option.some.injEq] at hl
    subst hl
    exact rsvCells_alike' (fun nm hm => h nm (by simpa [base] using hm))
  | ref nm =>
    simp only [cellsOf, one, if_true, Option.some.injEq] at hl
    subst hl
    simp only [List.map_cons, List.map_nil, rsv1]
    rw [h nm (by simp [base])]
  | _ =>
    simp only [cellsOf] at hl
    split at hl
    · simp only [Option.some.injEq] at hl
      subst hl
      rfl
    · cases hl

theorem storeOp_alike {t : TypeId} {x y : AV} {K : Eff → Prop} (h : ∀ nm, nm ∈ base x → st'.o nm = st.o nm) (hy : ∀ nm, nm ∈ base y → st'.o nm = st.o nm) : storeOp P st' t x y K = storeOp P st t x y K := by
  cases x <;> try rfl
  rename_i nm off
  have h0 := h nm (by simp [base])
  simp only [storeOp]
  cases hc : cellsOf y with
  | none => rfl
  | some l => simp only [h0, rsv1s_alike hy hc]

theorem opwOf_alike {x : AV} (h : ∀ nm, nm ∈ looksV st x → st'.o nm = st.o nm) : opwOf st' x = opwOf st x := by
  cases x <;> try rfl
  rename_i nm
  simp only [opwOf]
  rw [h nm (looksV_base (by simp [base]))]
theorem appOldW_alike {x : AV} (h : ∀ nm, nm ∈ looksV st x → st'.o nm = st.o nm) : appOldW st' x = appOldW st x := by
  cases x <;> try rfl
  rename_i nm
  simp only [appOldW]
  rw [h nm (looksV_base (by simp [base]))]

theorem buildSlice_alike {dst : Option Nat} {t : TypeId} {len : Nat} {parts : List (Nat × AV)} {K : Eff → Prop} (h : ∀ p, p ∈ parts → ∀ nm, nm ∈ looksV st p.2 → st'.o nm = st.o nm) : buildSliceOp P st' dst t len parts K = buildSliceOp P st dst t len parts K := by
  unfold buildSliceOp
  split
  · split
    · unfold moveSliceOp
      split
      · rename_i x z hz
        split
        · rename_i l hl
          rw [rsv1s_alike (fun nm hm => h (0, _) (by simp) nm (looksV_base hm)) hl]
        · rfl
      · rfl
    · rfl
  · rfl

theorem lookupOp_alike {t : TypeId} {x ix : AV} {ok : Bool} {K : Eff → Prop} (h : ∀ nm, nm ∈ looksV st x → st'.o nm = st.o nm) : lookupOp P st' t x ix ok K = lookupOp P st t x ix ok K := by
  unfold lookupOp
  split
  · rw [h _ (looksV_base (by simp [base]))]
  · rfl
theorem mapUpdateOp_alike {t : TypeId} {x k y : AV} {K : Eff → Prop} (h : ∀ nm, nm ∈ looksV st x → st'.o nm = st.o nm) : mapUpdateOp P st' t x k y K = mapUpdateOp P st t x k y K := by
  unfold mapUpdateOp
  split
  · rw [h _ (looksV_base (by simp [base]))]
  · rfl

theorem opA_alike {o : Oper} (h : Alike st st' o) {K : Eff → Prop} : opA P fz o st' K = opA P fz o st K := by
  have lk' : ∀ x, x ∈ o.op.operands.toList → blind o.op = false → narrow o.op = false → ∀ nm, nm ∈ looksV st (opv st x) → st'.o nm = st.o nm := fun x hx hb hw nm hm => h.ob nm (mem_looks hb hw hx hm)
  have lkB : ∀ x, x ∈ o.op.operands.toList → blind o.op = false → narrow o.op = true → ∀ nm, nm ∈ base (opv st x) → st'.o nm = st.o nm := fun x hx hb hw nm hm => h.ob nm (mem_looksB hb hw hx hm)
  have lk : ∀ x, x ∈ o.op.operands.toList → (blind o.op || narrow o.op) = false → ∀ nm, nm ∈ looksV st (opv st x) → st'.o nm = st.o nm := fun x hx hb => lk' x hx (Bool.or_eq_false_iff.1 hb).1 (Bool.or_eq_false_iff.1 hb).2
  have hs := h.sl
  unfold opA
  split
  · rename_i f args ts ho
    have e1 : opv st' f = opv st f := hs f (by simp [ho, Op.operands, Call.operands])
    have e2 : args.toList.map (opv st') = args.toList.map (opv st) := List.map_congr_left fun x hx => hs x (by simp [ho, Op.operands, Call.operands]; right; simpa using hx)
    rw [e1, e2]
    cases hf : opv st f <;> try rfl
    all_goals
      have hargs : ∀ x ∈ args.toList.map (opv st), ∀ nm, nm ∈ looksV st x → st'.o nm = st.o nm := by
        intro x hx nm hm
        obtain ⟨y, hy, rfl⟩ := List.mem_map.1 hx
        exact lk y (by simp [ho, Op.operands, Call.operands]; right; simpa using hy) (by simp [ho, blind, narrow]) nm hm
      have h1 : (args.toList.map (opv st)).all (fun x => nrf (rsv st'.o x)) = (args.toList.map (opv st)).all (fun x => nrf (rsv st.o x)) := by
        rw [Bool.eq_iff_iff, List.all_eq_true, List.all_eq_true]
        constructor
        · intro h x hx; rw [← rsv_alike (hargs x hx)]; exact h x hx
        · intro h x hx; rw [rsv_alike (hargs x hx)]; exact h x hx
      have h2 : (args.toList.map (opv st)).map (pas st'.o) = (args.toList.map (opv st)).map (pas st.o) := List.map_congr_left fun x hx => by unfold pas; rw [rsv_alike (hargs x hx)]
      have h3 : (args.toList.map (opv st)).all (fun x => nrf (rsv2 st'.o x)) = (args.toList.map (opv st)).all (fun x => nrf (rsv2 st.o x)) := by
        rw [Bool.eq_iff_iff, List.all_eq_true, List.all_eq_true]
        constructor
        · intro h x hx; rw [← rsv2_alike (hargs x hx)]; exact h x hx
        · intro h x hx; rw [rsv2_alike (hargs x hx)]; exact h x hx
      have h4 : (args.toList.map (opv st)).map (rsv2 st'.o) = (args.toList.map (opv st)).map (rsv2 st.o) := List.map_congr_left fun x hx => rsv2_alike (hargs x hx)
      simp only [callOp, callOpF, callOwn, callRel, h1, h2, h3, h4]
  · rename_i hno
    unfold aop
    split <;> rename_i ho
    · rw [hs _ (by simp [ho, Op.operands])]
    · rw [hs _ (by simp [ho, Op.operands])]
    · rw [hs _ (by simp [ho, Op.operands]), hs _ (by simp [ho, Op.operands]), hs _ (by simp [ho, Op.operands])]
    · rw [hs _ (by simp [ho, Op.operands])]
    · rfl
    · rw [hs _ (by simp [ho, Op.operands])]
      exact loadOp_alike (lkB _ (by simp [ho, Op.operands]) (by simp [ho, blind]) (by simp [ho, narrow]))
    · rw [hs _ (by simp [ho, Op.operands])]
    · rw [hs _ (by simp [ho, Op.operands])]
    · rw [hs _ (by simp [ho, Op.operands]), hs _ (by simp [ho, Op.operands])]
      exact indexAddr_alike (lk _ (by simp [ho, Op.operands]) (by simp [ho, blind, narrow]))
    · rw [hs _ (by simp [ho, Op.operands])]
    · rw [hs _ (by simp [ho, Op.operands]), hs _ (by simp [ho, Op.operands])]
      exact cmpOp_alike (lk _ (by simp [ho, Op.operands]) (by simp [ho, blind, narrow]))
    · rw [hs _ (by simp [ho, Op.operands])]
    · rw [hs _ (by simp [ho, Op.operands])]
      exact conv_alike (lk _ (by simp [ho, Op.operands]) (by simp [ho, blind, narrow]))
    · have hc : ∀ l : List Operand, (∀ x ∈ l, x ∈ o.op.operands.toList) → l.map (opv st') = l.map (opv st) := fun l hl => List.map_congr_left fun x hx => hs x (hl x hx)
      rw [hc _ (fun x hx => by simp [ho, Op.operands]; left; simpa using hx), hc _ (fun x hx => by simp [ho, Op.operands]; right; simpa using hx)]
    · rename_i t parts _
      rw [List.map_congr_left (f := fun p : Nat × Operand => (p.1, opv st' p.2)) (g := fun p => (p.1, opv st p.2)) (fun p hp => by rw [hs p.2 (by simp [ho, Op.operands]; exact ⟨p.1, by simpa using hp⟩)])]
    · rename_i t len parts _
      rw [List.map_congr_left (f := fun p : Nat × Operand => (p.1, opv st' p.2)) (g := fun p => (p.1, opv st p.2)) (fun p hp => by rw [hs p.2 (by simp [ho, Op.operands]; exact ⟨p.1, by simpa using hp⟩)])]
      congr 1
      congr 1
      exact buildSlice_alike fun p hp => by
        obtain ⟨q, hq, rfl⟩ := List.mem_map.1 hp
        exact lk q.2 (by simp [ho, Op.operands]; exact ⟨q.1, by simpa using hq⟩) (by simp [ho, blind, narrow])
    · rw [hs _ (by simp [ho, Op.operands]), hs _ (by simp [ho, Op.operands])]
      exact storeOp_alike (lkB _ (by simp [ho, Op.operands]) (by simp [ho, blind]) (by simp [ho, narrow])) (lkB _ (by simp [ho, Op.operands]) (by simp [ho, blind]) (by simp [ho, narrow]))
    · rw [hs _ (by simp [ho, Op.operands]), hs _ (by simp [ho, Op.operands])]
    · rename_i t x lo hi
      have hlo : lo.map (opv st') = lo.map (opv st) := by
        cases lo with
        | none => rfl
        | some y => simp only [Option.map_some]; rw [hs y (by simp [ho, Op.operands])]
      have hhi : hi.map (opv st') = hi.map (opv st) := by
        cases hi with
        | none => rfl
        | some y => simp only [Option.map_some]; rw [hs y (by simp [ho, Op.operands])]
      rw [hs _ (by simp [ho, Op.operands]), hlo, hhi]
      have hlk := lk x (by simp [ho, Op.operands]) (by simp [ho, blind, narrow])
      revert hlk
      generalize opv st x = y
      intro hlk
      have e1 : slicePfx P st' t y (lo.map (opv st)) (hi.map (opv st)) K = slicePfx P st t y (lo.map (opv st)) (hi.map (opv st)) K := by
        unfold slicePfx
        split
        · rw [hlk _ (looksV_base (by simp [base]))]
        · rfl
      have e2 : sliceOp2 P st' o.dst t y (lo.map (opv st)) (hi.map (opv st)) K = sliceOp2 P st o.dst t y (lo.map (opv st)) (hi.map (opv st)) K := by
        unfold sliceOp2
        split
        · rw [hlk _ (looksV_base (by simp [base]))]
        · rfl
        · rfl
      rw [e1, e2]
    · rw [hs _ (by simp [ho, Op.operands]), hs _ (by simp [ho, Op.operands])]
    · rename_i t r
      have hr : r.map (opv st') = r.map (opv st) := by
        cases r with
        | none => rfl
        | some y => simp only [Option.map_some]; rw [hs y (by simp [ho, Op.operands])]
      rw [hr]
    · rw [hs _ (by simp [ho, Op.operands]), hs _ (by simp [ho, Op.operands])]
      exact lookupOp_alike (lk _ (by simp [ho, Op.operands]) (by simp [ho, blind, narrow]))
    · rw [hs _ (by simp [ho, Op.operands]), hs _ (by simp [ho, Op.operands]), hs _ (by simp [ho, Op.operands])]
      exact mapUpdateOp_alike (lk _ (by simp [ho, Op.operands]) (by simp [ho, blind, narrow]))
    · rw [hs _ (by simp [ho, Op.operands]), hs _ (by simp [ho, Op.operands]), hs _ (by simp [ho, Op.operands])]
      exact mapUpdateOp_alike (lk _ (by simp [ho, Op.operands]) (by simp [ho, blind, narrow]))
    · split
      · rename_i x y t t' h1 h2
        have hx : x ∈ o.op.operands.toList := by simp [ho, Op.operands, Call.operands, h1]
        have hy : y ∈ o.op.operands.toList := by simp [ho, Op.operands, Call.operands, h1]
        rw [hs x hx, hs y hy]
        unfold appendOp appendOpF appendW
        rw [appOld_alike (lk _ hx (by simp [ho, blind, narrow])), slOf_alike (lk _ hy (by simp [ho, blind, narrow])), opwOf_alike (lk _ hy (by simp [ho, blind, narrow])), appOldW_alike (lk _ hx (by simp [ho, blind, narrow]))]
      · rfl
    · split
      · rename_i x t h1 h2
        have hx : x ∈ o.op.operands.toList := by simp [ho, Op.operands, Call.operands, h1]
        rw [hs x hx]
        have hlk := lk _ hx (by simp [ho, blind, narrow])
        revert hlk
        generalize opv st x = y
        intro hlk
        unfold clearOp
        split
        · rw [hlk _ (looksV_base (by simp [base]))]
        · rfl
      · rfl
    · split
      · rename_i x y t t' h1 h2
        have hx : x ∈ o.op.operands.toList := by simp [ho, Op.operands, Call.operands, h1]
        have hy : y ∈ o.op.operands.toList := by simp [ho, Op.operands, Call.operands, h1]
        rw [hs x hx, hs y hy]
        have hlk := lk _ hx (by simp [ho, blind, narrow])
        revert hlk
        generalize opv st x = z
        intro hlk
        unfold copyOp
        split
        · rw [hlk _ (looksV_base (by simp [base]))]
        · rw [hlk _ (looksV_base (by simp [base]))]
        · rfl
      · rfl
    · split
      · rename_i x t h1 h2
        have hx : x ∈ o.op.operands.toList := by simp [ho, Op.operands, Call.operands, h1]
        rw [hs x hx]
        exact len_alike (lk _ hx (by simp [ho, blind, narrow]))
      · rfl
    · split
      · rename_i x t h1 h2
        have hx : x ∈ o.op.operands.toList := by simp [ho, Op.operands, Call.operands, h1]
        rw [hs x hx]
      · rfl
    · split
      · rename_i x y h1
        have hx : x ∈ o.op.operands.toList := by simp [ho, Op.operands, Call.operands, h1]
        have hy : y ∈ o.op.operands.toList := by simp [ho, Op.operands, Call.operands, h1]
        rw [hs x hx, hs y hy]
      · rfl
    · rfl

/-! ### Steps, in any order -/
/-- Is the operation done? -/
def wantA (all : Array Oper) (o : Oper) (st : St) : Option Bool := match o.guard with
  | none => some true
  | some (j, b) => match (all[j]?).bind (·.dst) with
    | some g => match st.s g with
      | .val (.bool c) => some (c == b)
      | .val (.tuple _) => some false
      | _ => none
    | none => none

/-- The operation, in this state, has this effect, and looks at these nodes. -/
def Stp (P : Program) (fz : Nat → Bool) (all : Array Oper) (o : Oper) (st : St) (r : Rec) : Prop :=
  (wantA all o st = some true ∧ opA P fz o st (fun e' => e' = r.e) ∧ r.e.okD st o.dst ∧ r.l = looks st o) ∨
  (wantA all o st = some false ∧ r.e = { val := .val undef } ∧ ∀ d, o.dst = some d → d < st.n)

/-- Whatever order is picked from here on; 'R': each operation's record. -/
def wpAnyA (P : Program) (fz : Nat → Bool) (all : Array Oper) (R : Nat → Rec) (K : St → Prop) : Nat → Array Bool → St → Prop
  | 0, listed, st => Region.ready .any all listed = [] ∧ K st
  | fuel + 1, listed, st => (Region.ready .any all listed = [] → K st) ∧
      ∀ i, i ∈ Region.ready .any all listed → ∃ o, all[i]? = some o ∧ Stp P fz all o st (R i) ∧ wpAnyA P fz all R K fuel (listed.setIfInBounds i true) (st.app o.dst (R i).e)

theorem skip_app (st : St) (dst : Option Nat) : st.app dst { val := .val undef } = st.put dst (.val undef) := rfl

theorem step_sound {c : Ctx P} {a : Act} {w : World} {all : Array Oper} {i : Nat} {o : Oper} (hi : all[i]? = some o) {st : St} (h : StRel c st a w) {r : Rec} (hs : Stp P fz all o st r) {K : Act → World → Prop} {Q : Exit → Act → World → Prop}
    (hK : ∀ a' w', StRel c (st.app o.dst r.e) a' w' → K a' w') : wpOp P all Q i K a w := by
  unfold wpOp
  rw [hi]
  simp only
  have hyl : ∀ b, wantA all o st = some b → Region.wanted o (yielded all a.tmps) = b := by
    intro b hb
    unfold wantA at hb
    split at hb
    · rename_i hg
      cases hb
      simp [Region.wanted, hg]
    · rename_i j x hg
      split at hb
      case h_2 => cases hb
      rename_i g hdst
      split at hb
      case h_3 => cases hb
      case h_2 =>
        rename_i cs hy
        cases hb
        have := yielded_not hdst (tuple_at h hy)
        simp [Region.wanted, hg, this]
      rename_i y hy
      cases hb
      have := yielded_at hdst (bool_at h hy)
      simp only [Region.wanted, hg, this]
      cases x <;> cases y <;> rfl
  rcases hs with ⟨hw, hop, hok, _⟩ | ⟨hw, he, hd⟩
  · rw [if_pos (hyl _ hw)]
    refine .inl (opA_sound h hop _ _ fun e a' w' hee hr => hK _ _ ?_)
    subst hee
    exact hr (okD_ok hok)
  · rw [if_neg (by rw [hyl _ hw]; simp)]
    refine hK _ _ ?_
    rw [he, skip_app]
    exact h.put_undef hd

theorem wpAnyA_sound {c : Ctx P} {all : Array Oper} {R : Nat → Rec} {K : St → Prop} {Q : Exit → Act → World → Prop} (hQ : ∀ st a w, StRel c st a w → K st → Q .normal a w) :
    ∀ (fuel : Nat) (listed : Array Bool) (st : St) (a : Act) (w : World), StRel c st a w → wpAnyA P fz all R K fuel listed st → wpAny P .any all Q fuel listed a w
  | 0, listed, st, a, w, h, hA => ⟨hA.1, hQ st a w h hA.2⟩
  | fuel + 1, listed, st, a, w, h, hA => by
    refine ⟨fun h0 => hQ st a w h (hA.1 h0), fun i hi => ?_⟩
    obtain ⟨o, ho, hs, hrest⟩ := hA.2 i hi
    exact step_sound ho h hs fun a' w' h' => wpAnyA_sound hQ fuel _ _ a' w' h' hrest

/-- All that has been done has done before it what it waits for. -/
def Closed (all : Array Oper) (listed : Array Bool) : Prop := ∀ j o, all[j]? = some o → listed.getD j false = true → ∀ e, e ∈ o.after → Region.binds .any e = true → listed.getD e.on false = true

theorem anc_listed {all : Array Oper} {listed : Array Bool} (hc : Closed all listed) : ∀ (f i j : Nat) (o : Oper), all[j]? = some o → (∀ e, e ∈ o.after → Region.binds .any e = true → listed.getD e.on false = true) → ancB all f i j = true → listed.getD i false = true
  | 0, _, _, _, _, _, h => by simp [ancB] at h
  | f + 1, i, j, o, ho, hall, h => by
    simp only [ancB, ho, Array.any_eq_true'] at h
    obtain ⟨e, he, hb⟩ := h
    simp only [Bool.and_eq_true, Bool.or_eq_true, beq_iff_eq] at hb
    rcases hb.2 with h1 | h1
    · rw [← h1]; exact hall e he hb.1
    · have hl := hall e he hb.1
      cases hk : all[e.on]? with
      | none =>
        cases f with
        | zero => simp [ancB] at h1
        | succ f => simp [ancB, hk] at h1
      | some o' => exact anc_listed hc f i e.on o' hk (hc e.on o' hk hl) h1

/-- What is known of two operations that may come up in either order. -/
structure Pair (oi oj : Oper) (all : Array Oper) (r s : Rec) : Prop where
  ap : oi.apart all oj = true
  pa : oj.apart all oi = true
  cl : ∀ nm, nm ∈ r.e.chg → nm ∉ s.l
  lc : ∀ nm, nm ∈ s.e.chg → nm ∉ r.l
  cc : ∀ nm, nm ∈ r.e.chg → nm ∉ s.e.chg
  nm : ∀ nm, nm ∈ r.news → nm ∉ s.ment
  mn : ∀ nm, nm ∈ s.news → nm ∉ r.ment

theorem looks_alike {st st' : St} {o : Oper} (h : Alike st st' o) : looks st' o = looks st o := by
  unfold looks
  cases hb : blind o.op with
  | true => rfl
  | false =>
  simp only [cond_false]
  cases hw : narrow o.op with
  | true =>
    simp only [cond_true]
    have : ∀ l : List Operand, (∀ x, x ∈ l → x ∈ o.op.operands.toList) → l.flatMap (fun x => base (opv st' x)) = l.flatMap (fun x => base (opv st x)) := by
      intro l
      induction l with
      | nil => intro _; rfl
      | cons x xs ih =>
        intro hl
        rw [List.flatMap_cons, List.flatMap_cons, h.sl x (hl x (by simp)), ih (fun y hy => hl y (by simp [hy]))]
    exact this _ fun _ h => h
  | false =>
  simp only [cond_false]
  have key : ∀ x, x ∈ o.op.operands.toList → looksV st' (opv st' x) = looksV st (opv st x) := by
    intro x hx
    rw [h.sl x hx]
    unfold looksV
    split
    · rename_i nm off hv
      have := h.ob nm (mem_looks hb hw hx (by rw [hv]; simp [looksV]))
      rw [this]
    · rename_i f l hv
      have key : ∀ q : List AV, (∀ y, y ∈ q → y ∈ l) → q.flatMap (lookC st') = q.flatMap (lookC st) := by
        intro q
        induction q with
        | nil => intro _; rfl
        | cons y ys ih =>
          intro hq
          rw [List.flatMap_cons, List.flatMap_cons, ih (fun z hz => hq z (by simp [hz]))]
          congr 1
          cases y <;> try rfl
          rename_i nm off
          have := h.ob nm (mem_looks hb hw hx (by rw [hv]; simp only [looksV, List.mem_flatMap]; exact ⟨.pt nm off, hq _ (by simp), by simp [lookC]⟩))
          simp only [lookC]
          rw [this]
      exact key l fun _ h => h
    · rfl
  have : ∀ l : List Operand, (∀ x, x ∈ l → x ∈ o.op.operands.toList) → l.flatMap (fun x => looksV st' (opv st' x)) = l.flatMap (fun x => looksV st (opv st x)) := by
    intro l
    induction l with
    | nil => intro _; rfl
    | cons x xs ih =>
      intro hl
      rw [List.flatMap_cons, List.flatMap_cons, key x (hl x (by simp)), ih (fun y hy => hl y (by simp [hy]))]
  exact this _ fun _ h => h

theorem opv_app {st : St} {dst : Option Nat} {e : Eff} {x : Operand} (h : ∀ d, dst = some d → x ≠ .tmp d) : opv (st.app dst e) x = opv st x := by
  cases x with
  | tmp t =>
    simp only [opv, app_s]
    rw [if_neg]
    intro hd
    exact h t hd rfl
  | _ => rfl

theorem apart_looks {all : Array Oper} {x y : Oper} (h : x.apart all y = true) : (∀ d, x.dst = some d → ∀ z, z ∈ y.op.operands.toList → z ≠ .tmp d) ∧ (∀ d, x.dst = some d → ∀ j b g, y.guard = some (j, b) → (all[j]?).bind (·.dst) = some g → g ≠ d) := by
  obtain ⟨h1, _, _⟩ := Oper.apart_spec h
  refine ⟨fun d hd z hz e => h1 d hd ?_, fun d hd j b g hg hdst e => h1 d hd ?_⟩
  · subst e
    unfold Oper.looksAt
    exact List.mem_append.2 (.inl (List.mem_filterMap.2 ⟨_, hz, rfl⟩))
  · subst e
    unfold Oper.looksAt
    rw [hg]
    simp only [hdst, Option.toList]
    exact List.mem_append.2 (.inr (by simp))

theorem wantA_app {all : Array Oper} {o : Oper} {st : St} {dst : Option Nat} {e : Eff} (h : ∀ d, dst = some d → ∀ j b g, o.guard = some (j, b) → (all[j]?).bind (·.dst) = some g → g ≠ d) : wantA all o (st.app dst e) = wantA all o st := by
  unfold wantA
  cases hg : o.guard with
  | none => rfl
  | some p =>
    obtain ⟨j, b⟩ := p
    simp only
    cases hd : (all[j]?).bind (·.dst) with
    | none => rfl
    | some g =>
      simp only
      rw [app_s, if_neg]
      intro e
      exact h g e j b g hg hd rfl

/-- A step that cannot tell the states apart. -/
theorem Stp.alike {all : Array Oper} {o : Oper} {st st' : St} {r : Rec} (hs : Stp P fz all o st r) (ha : Alike st st' o) (hw : wantA all o st' = wantA all o st) (hn : st'.n = st.n) (hf : ∀ p, p ∈ r.e.news → st'.free p.1 ∧ st'.o p.1 = none) : Stp P fz all o st' r := by
  rcases hs with ⟨h1, h2, h3, h4⟩ | ⟨h1, h2, h3⟩
  · refine .inl ⟨by rw [hw]; exact h1, by rw [opA_alike ha]; exact h2, ⟨by rw [hn]; exact h3.1, h3.2.1, hf⟩, by rw [looks_alike ha]; exact h4⟩
  · exact .inr ⟨by rw [hw]; exact h1, h2, by rw [hn]; exact h3⟩

/-- A skipped operation changes no node. -/
theorem Stp.looks_sub {all : Array Oper} {o : Oper} {st : St} {r : Rec} (hs : Stp P fz all o st r) : r.l = looks st o ∨ (wantA all o st = some false ∧ r.e = { val := .val undef }) := by
  rcases hs with ⟨_, _, _, h⟩ | ⟨h, h2, _⟩
  · exact .inl h
  · exact .inr ⟨h, h2⟩

theorem app_free {st : St} {dst : Option Nat} {r : Rec} {d : Nat} (h : st.free d) (hm : d ∉ r.ment) : (st.app dst r.e).free d := by
  simp only [Rec.ment, List.mem_append, not_or] at hm
  unfold St.app
  refine put_free (nws_free (ws_free h fun q hq x hx => ?_) fun q hq => ?_) (noR_of_ments d _ hm.1.1)
  · refine noR_of_ments d _ fun hmem => hm.2 (List.mem_flatMap.2 ⟨q, hq, ?_⟩)
    rw [hx]; exact hmem
  · exact noR_of_ments d _ fun hmem => hm.1.2 (List.mem_flatMap.2 ⟨q, hq, hmem⟩)

/-- **Two steps in either order.** -/
theorem swap {all : Array Oper} {oi oj : Oper} {st : St} {r s : Rec} (hp : Pair oi oj all r s) (hi : Stp P fz all oi st r) (hj : Stp P fz all oj (st.app oi.dst r.e) s) (hfj : ∀ p, p ∈ s.e.news → st.free p.1 ∧ st.o p.1 = none)
    (hfi : ∀ p, p ∈ r.e.news → st.free p.1 ∧ st.o p.1 = none) : Stp P fz all oj st s ∧ Stp P fz all oi (st.app oj.dst s.e) r ∧ (st.app oi.dst r.e).app oj.dst s.e = (st.app oj.dst s.e).app oi.dst r.e := by
  obtain ⟨a1, a2⟩ := apart_looks hp.ap
  obtain ⟨b1, b2⟩ := apart_looks hp.pa
  have hcomm := app_comm st (d := oi.dst) (d' := oj.dst) (e := r.e) (e' := s.e) (Oper.apart_spec hp.ap).2.1 hp.cc
  have alj : Alike (st.app oi.dst r.e) st oj ∨ (wantA all oj (st.app oi.dst r.e) = some false ∧ s.e = { val := .val undef }) := by
    rcases hj.looks_sub with hl | hsk
    · refine .inl ⟨fun x hx => (opv_app fun d hd => a1 d hd x hx).symm, fun nm hnm => (app_o_ne st oi.dst r.e nm fun hc => hp.cl nm hc (by rw [hl]; exact hnm)).symm⟩
    · exact .inr hsk
  have hj' : Stp P fz all oj st s := by
    rcases alj with hal | ⟨hw, he⟩
    · exact hj.alike hal (wantA_app a2).symm (app_n st oi.dst r.e).symm hfj
    · refine .inr ⟨by rw [← wantA_app a2]; exact hw, he, ?_⟩
      rcases hj with ⟨h1, _⟩ | ⟨_, _, h3⟩
      · rw [h1] at hw; cases hw
      · rw [app_n] at h3; exact h3
  have hfi' : ∀ p, p ∈ r.e.news → (st.app oj.dst s.e).free p.1 ∧ (st.app oj.dst s.e).o p.1 = none := by
    intro p hp'
    have hnews : p.1 ∈ r.news := List.mem_map_of_mem hp'
    refine ⟨app_free (hfi p hp').1 (hp.nm _ hnews), ?_⟩
    rw [app_o_ne _ _ _ _ (hp.cc p.1 (List.mem_append.2 (.inl hnews)))]
    exact (hfi p hp').2
  refine ⟨hj', ?_, hcomm⟩
  rcases hi.looks_sub with hl | ⟨hw, he⟩
  · refine hi.alike ⟨fun x hx => opv_app fun d hd => b1 d hd x hx, fun nm hnm => app_o_ne st oj.dst s.e nm fun hc => hp.lc nm hc (by rw [hl]; exact hnm)⟩ (wantA_app b2) (app_n _ _ _) hfi'
  · refine .inr ⟨by rw [wantA_app b2]; exact hw, he, ?_⟩
    rcases hi with ⟨h1, _⟩ | ⟨_, _, h3⟩
    · rw [h1] at hw; cases hw
    · rw [app_n]; exact h3

/-- What is known of all the records together. -/
structure Good (all : Array Oper) (R : Nat → Rec) : Prop where
  pair : ∀ i j oi oj, all[i]? = some oi → all[j]? = some oj → i ≠ j → ancB all all.size i j = false → ancB all all.size j i = false → Pair oi oj all (R i) (R j)
  late : ∀ i j, i < all.size → j < all.size → i ≠ j → ancB all all.size i j = true → ∀ nm, nm ∈ (R j).news → nm ∉ (R i).ment ∧ nm ∉ (R i).e.chg

/-- What is not yet made is nobody's. -/
def FreeInv (all : Array Oper) (R : Nat → Rec) (listed : Array Bool) (st : St) : Prop := ∀ k, k < all.size → listed.getD k true = false → ∀ p, p ∈ (R k).e.news → st.free p.1 ∧ st.o p.1 = none

theorem getD_set_true' {listed : Array Bool} {j k : Nat} (h : listed.getD k false = true) : (listed.setIfInBounds j true).getD k false = true := getD_set_true h

theorem closed_set {all : Array Oper} {listed : Array Bool} (hc : Closed all listed) {j : Nat} (hj : j ∈ Region.ready .any all listed) : Closed all (listed.setIfInBounds j true) := by
  obtain ⟨hun, oj, hoj, hall⟩ := mem_ready.1 hj
  intro k o hk hl e he hb
  by_cases hkj : k = j
  · subst hkj
    rw [hoj] at hk
    cases hk
    exact getD_set_true (hall e he hb)
  · rw [getD_set_ne false (fun e => hkj e.symm)] at hl
    exact getD_set_true (hc k o hk hl e he hb)

theorem un_false {listed : Array Bool} {i : Nat} (h : listed.getD i true = false) : listed.getD i false = false := by
  rcases Nat.lt_or_ge i listed.size with h' | h'
  · simp [h'] at h ⊢; exact h
  · simp [Array.getElem?_eq_none h'] at h

theorem free_set {all : Array Oper} {R : Nat → Rec} (hg : Good all R) {listed : Array Bool} (hc : Closed all listed) {st : St} (hf : FreeInv all R listed st) {j : Nat} {oj : Oper} (hoj : all[j]? = some oj) (hj : j ∈ Region.ready .any all listed) :
    FreeInv all R (listed.setIfInBounds j true) (st.app oj.dst (R j).e) := by
  intro k hk hun p hp
  have hjlt : j < all.size := (Array.getElem?_eq_some_iff.1 hoj).1
  have hkj : k ≠ j := by
    intro e
    subst e
    obtain ⟨hjun, _⟩ := mem_ready.1 hj
    rcases Nat.lt_or_ge k listed.size with h' | h'
    · simp [h'] at hun
    · simp [Array.getElem?_eq_none h'] at hjun
  rw [getD_set_ne true (fun e => hkj e.symm)] at hun
  have hfree := hf k hk hun p hp
  have hnews : p.1 ∈ (R k).news := List.mem_map_of_mem hp
  obtain ⟨_, o', ho', hall⟩ := mem_ready.1 hj
  have hkjA : ancB all all.size k j = false := by
    cases h : ancB all all.size k j with
    | false => rfl
    | true =>
      have := anc_listed hc all.size k j o' ho' hall h
      rw [un_false hun] at this
      cases this
  have hnm : p.1 ∉ (R j).ment ∧ p.1 ∉ (R j).e.chg := by
    cases h : ancB all all.size j k with
    | true => exact hg.late j k hjlt hk (fun e => hkj e.symm) h p.1 hnews
    | false =>
      have hok : all[k]? = some all[k] := Array.getElem?_eq_getElem hk
      have hp' := hg.pair j k oj all[k] hoj hok (fun e => hkj e.symm) h hkjA
      exact ⟨hp'.mn p.1 hnews, fun hm => hp'.cc p.1 hm (List.mem_append.2 (.inl hnews))⟩
  exact ⟨app_free hfree.1 hnm.1, by rw [app_o_ne _ _ _ _ hnm.2]; exact hfree.2⟩

/-- **An operation that may come up now may be taken first.** -/
theorem wpAnyA_first {all : Array Oper} {R : Nat → Rec} {K : St → Prop} (hg : Good all R) {i : Nat} {oi : Oper} (hoi : all[i]? = some oi) :
    ∀ (fuel : Nat) (listed : Array Bool) (st : St), Closed all listed → FreeInv all R listed st → i ∈ Region.ready .any all listed → Stp P fz all oi st (R i) →
      wpAnyA P fz all R K fuel (listed.setIfInBounds i true) (st.app oi.dst (R i).e) → wpAnyA P fz all R K (fuel + 1) listed st := by
  intro fuel
  induction fuel with
  | zero =>
    intro listed st hc hf hr hs H
    refine ⟨fun h => (by rw [h] at hr; cases hr), fun j hj => ?_⟩
    by_cases hji : j = i
    · subst hji; exact ⟨oi, hoi, hs, H⟩
    · have := ready_mono hj hji
      rw [H.1] at this
      cases this
  | succ fuel ih =>
    intro listed st hc hf hr hs H
    refine ⟨fun h => (by rw [h] at hr; cases hr), fun j hj => ?_⟩
    by_cases hji : j = i
    · subst hji; exact ⟨oi, hoi, hs, H⟩
    · obtain ⟨oj, hoj, hsj, Hj⟩ := H.2 j (ready_mono hj hji)
      obtain ⟨hjun, oj', hoj', hallj⟩ := mem_ready.1 hj
      rw [hoj] at hoj'
      cases hoj'
      obtain ⟨hiun, oi', hoi', halli⟩ := mem_ready.1 hr
      rw [hoi] at hoi'
      cases hoi'
      have hjlt : j < all.size := (Array.getElem?_eq_some_iff.1 hoj).1
      have hilt : i < all.size := (Array.getElem?_eq_some_iff.1 hoi).1
      have hij : ancB all all.size i j = false := by
        cases h : ancB all all.size i j with
        | false => rfl
        | true =>
          have := anc_listed hc all.size i j oj hoj hallj h
          rw [un_false hiun] at this
          cases this
      have hji' : ancB all all.size j i = false := by
        cases h : ancB all all.size j i with
        | false => rfl
        | true =>
          have := anc_listed hc all.size j i oi hoi halli h
          rw [un_false hjun] at this
          cases this
      obtain ⟨s1, s2, s3⟩ := swap (hg.pair i j oi oj hoi hoj (fun e => hji e.symm) hij hji') hs hsj (hf j hjlt hjun) (hf i hilt hiun)
      refine ⟨oj, hoj, s1, ih _ _ (closed_set hc hj) (free_set hg hc hf hoj hj) (ready_mono hr (fun e => hji e.symm)) s2 ?_⟩
      rw [Array.setIfInBounds_comm _ _ hji, ← s3]
      exact Hj

/-- The walk in the text's order. -/
def Run (P : Program) (fz : Nat → Bool) (all : Array Oper) : List Oper → List Rec → St → St → Prop
  | [], [], st, st' => st' = st
  | o :: rest, r :: rs, st, st' => Stp P fz all o st r ∧ Run P fz all rest rs (st.app o.dst r.e) st'
  | _, _, _, _ => False

theorem put_id {st : St} {g : Nat} {x : AV} (h : st.s g = x) : st.put (some g) x = st := by
  refine St.ext' (funext fun t => ?_) rfl rfl
  simp only [St.put, upd]
  split
  · rename_i e; subst e; exact h.symm
  · rfl

theorem drawOps_run {all : Array Oper} {st₀ : St} {K : St → Prop} : ∀ {rest : List Oper} {recs : List Rec} {st : St}, drawOps P fz all st₀ rest recs st K →
    ∀ {c : Ctx P} {a : Act} {w : World}, ∃ tail st', Run P fz all rest tail st st' ∧ (compat all (recs ++ tail) = true ∧ textB all = true) ∧ (∀ r, r ∈ recs ++ tail → ∀ p, p ∈ r.e.news → st₀.free p.1 ∧ st₀.o p.1 = none) ∧ K st'
  | [], recs, st, h, c, a, w => by
    simp only [drawOps] at h
    exact ⟨[], st, rfl, by simpa using h.1, by simpa using h.2.1, h.2.2⟩
  | o :: rest, recs, st, h, c, a, w => by
    simp only [drawOps] at h
    have yes : ∀ s, s = st → wantA all o st = some true → (∃ e, opA P fz o s (fun e' => e' = e) ∧ e.okD s o.dst ∧ drawOps P fz all st₀ rest (recs ++ [⟨looks s o, e⟩]) (s.app o.dst e) K) →
        ∃ tail st', Run P fz all (o :: rest) tail st st' ∧ (compat all (recs ++ tail) = true ∧ textB all = true) ∧ (∀ r, r ∈ recs ++ tail → ∀ p, p ∈ r.e.news → st₀.free p.1 ∧ st₀.o p.1 = none) ∧ K st' := by
      rintro s rfl hw ⟨e, h1, h2, h3⟩
      obtain ⟨tail, st', r1, r2, r3, r4⟩ := drawOps_run h3 (c := c) (a := a) (w := w)
      refine ⟨⟨looks s o, e⟩ :: tail, st', ⟨.inl ⟨hw, h1, h2, rfl⟩, r1⟩, ?_, ?_, r4⟩
      · simpa using r2
      · simpa using r3
    have no : ∀ s, s = st → wantA all o st = some false → ((∀ d, o.dst = some d → d < s.n) ∧ drawOps P fz all st₀ rest (recs ++ [⟨[], { val := .val undef }⟩]) (s.put o.dst (.val undef)) K) →
        ∃ tail st', Run P fz all (o :: rest) tail st st' ∧ (compat all (recs ++ tail) = true ∧ textB all = true) ∧ (∀ r, r ∈ recs ++ tail → ∀ p, p ∈ r.e.news → st₀.free p.1 ∧ st₀.o p.1 = none) ∧ K st' := by
      rintro s rfl hw ⟨h1, h3⟩
      obtain ⟨tail, st', r1, r2, r3, r4⟩ := drawOps_run h3 (c := c) (a := a) (w := w)
      refine ⟨⟨[], { val := .val undef }⟩ :: tail, st', ⟨.inr ⟨hw, rfl, h1⟩, r1⟩, ?_, ?_, r4⟩
      · simpa using r2
      · simpa using r3
    unfold gdA at h
    split at h
    · rename_i hg
      exact yes st rfl (by simp [wantA, hg]) h
    · rename_i j b hg
      split at h
      case h_2 => exact h.elim
      rename_i g hd
      split at h
      case h_3 => exact h.elim
      case h_2 =>
        rename_i cs hx
        exact no _ rfl (by simp [wantA, hg, hd, hx]) h
      rename_i x hx
      by_cases e : x = b
      · exact yes _ (put_id (by rw [hx, e])) (by simp [wantA, hg, hd, hx, e]) (h.1 e)
      · have e' : x = !b := by cases x <;> cases b <;> simp at e ⊢
        refine no _ (put_id (by rw [hx, e'])) ?_ (h.2 e')
        simp only [wantA, hg, hd, hx]
        simpa using e

theorem run_length {all : Array Oper} : ∀ {rest : List Oper} {tail : List Rec} {st st' : St}, Run P fz all rest tail st st' → tail.length = rest.length
  | [], [], _, _, _ => rfl
  | o :: rest, r :: rs, _, _, h => by simp only [Run] at h; simp [run_length h.2]
  | [], _ :: _, _, _, h => by simp [Run] at h
  | _ :: _, [], _, _, h => by simp [Run] at h

theorem textB_spec {all : Array Oper} (h : textB all = true) {k : Nat} {o : Oper} (hk : all[k]? = some o) : ∀ e, e ∈ o.after → Region.binds .any e = true → e.on < k := by
  unfold textB at h
  have hm : (o, k) ∈ all.toList.zipIdx := by
    rw [List.mem_zipIdx_iff_getElem?]
    simpa using hk
  have := List.all_eq_true.1 h _ hm
  intro e he hb
  have h2 := Array.all_eq_true_iff_forall_mem.1 this e he
  simp only [Bool.or_eq_true, decide_eq_true_eq, hb, Bool.not_true, Bool.false_eq_true, false_or] at h2
  exact h2

theorem lex {all : Array Oper} {R : Nat → Rec} {K : St → Prop} (hg : Good all R) (ht : textB all = true) : ∀ (rest : List Oper) (k : Nat) (listed : Array Bool) (st st' : St) (tail : List Rec), (∀ j, rest[j]? = all[k + j]?) →
    (∀ j, tail[j]? = some (R (k + j)) ∨ rest.length ≤ j) → listed.size = all.size → (∀ j, j < all.size → listed.getD j true = decide (j < k)) → Closed all listed → FreeInv all R listed st → Run P fz all rest tail st st' → K st' →
    wpAnyA P fz all R K rest.length listed st
  | [], k, listed, st, st', tail, hl, hR, hsz, hlis, hc, hf, hrun, hK => by
    have hready : Region.ready .any all listed = [] := by
      rw [List.eq_nil_iff_forall_not_mem]
      intro i hi
      obtain ⟨hun, o, ho, _⟩ := mem_ready.1 hi
      have hlt : i < all.size := (Array.getElem?_eq_some_iff.1 ho).1
      have hge : all.size ≤ k := by
        have := hl 0
        simp only [List.getElem?_nil, Nat.add_zero] at this
        exact Array.getElem?_eq_none_iff.1 this.symm
      rw [hlis i hlt] at hun
      simp at hun
      omega
    cases tail with
    | nil => simp only [Run] at hrun; subst hrun; exact ⟨hready, hK⟩
    | cons r rs => simp [Run] at hrun
  | o :: rest, k, listed, st, st', tail, hl, hR, hsz, hlis, hc, hf, hrun, hK => by
    have h0 : all[k]? = some o := by simpa using (hl 0).symm
    have hklt : k < all.size := (Array.getElem?_eq_some_iff.1 h0).1
    cases tail with
    | nil => simp [Run] at hrun
    | cons r rs =>
      simp only [Run] at hrun
      have er : r = R k := by
        rcases hR 0 with h | h
        · simpa using h
        · simp at h
      subst er
      have hready : k ∈ Region.ready .any all listed := by
        refine mem_ready.2 ⟨by rw [hlis k hklt]; simp, o, h0, fun e he hb => ?_⟩
        have hlt := textB_spec ht h0 e he hb
        have := hlis e.on (by omega)
        rw [show decide (e.on < k) = true by simpa using hlt] at this
        rcases Nat.lt_or_ge e.on listed.size with h' | h'
        · simp [h'] at this ⊢; exact this
        · omega
      refine wpAnyA_first hg h0 rest.length listed st hc hf hready hrun.1 ?_
      refine lex hg ht rest (k + 1) _ _ st' rs (fun j => ?_) (fun j => ?_) (by simp [hsz]) (fun j hj => ?_) (closed_set hc hready) (free_set hg hc hf h0 hready) hrun.2 hK
      · have := hl (j + 1)
        simpa [Nat.add_assoc, Nat.add_comm 1 j] using this
      · rcases hR (j + 1) with h | h
        · left; simpa [Nat.add_assoc, Nat.add_comm 1 j] using h
        · right; simp at h; omega
      · by_cases e : j = k
        · subst e
          have : j < listed.size := by omega
          simp [this]
        · rw [getD_set_ne true (fun h => e h.symm), hlis j hj]
          by_cases h : j < k
          · simp [h]; omega
          · simp [h]; omega

theorem dis_spec {a b : List Nat} (h : dis a b = true) : ∀ nm, nm ∈ a → nm ∉ b := by
  intro nm ha hb
  have := List.all_eq_true.1 h nm ha
  simp at this
  exact this hb

theorem good_of {all : Array Oper} {recs : List Rec} (h : compat all recs = true) : Good all (fun i => recs.getD i ⟨[], { val := .val undef }⟩) ∧ recs.length = all.size := by
  unfold compat at h
  simp only [Bool.and_eq_true, beq_iff_eq] at h
  obtain ⟨hlen, hall⟩ := h
  have get : ∀ i, i < all.size → (recs.getD i ⟨[], { val := .val undef }⟩, i) ∈ recs.zipIdx := by
    intro i hi
    rw [List.mem_zipIdx_iff_getElem?, List.getD_eq_getElem?_getD, List.getElem?_eq_getElem (by omega)]
    rfl
  have key : ∀ i j, i < all.size → j < all.size → i ≠ j → (bif ancB all all.size i j then lateB (recs.getD i ⟨[], { val := .val undef }⟩) (recs.getD j ⟨[], { val := .val undef }⟩) else bif ancB all all.size j i then lateB (recs.getD j ⟨[], { val := .val undef }⟩) (recs.getD i ⟨[], { val := .val undef }⟩)
      else pairB all i j (recs.getD i ⟨[], { val := .val undef }⟩) (recs.getD j ⟨[], { val := .val undef }⟩)) = true := by
    intro i j hi hj hne
    have h1 := List.all_eq_true.1 hall _ (get i hi)
    have h2 := List.all_eq_true.1 h1 _ (get j hj)
    simp only [Bool.or_eq_true, beq_iff_eq] at h2
    exact h2.resolve_left hne
  refine ⟨⟨fun i j oi oj hi hj hne h1 h2 => ?_, fun i j hi hj hne h1 => ?_⟩, hlen⟩
  · have hil : i < all.size := (Array.getElem?_eq_some_iff.1 hi).1
    have hjl : j < all.size := (Array.getElem?_eq_some_iff.1 hj).1
    have := key i j hil hjl hne
    rw [h1, h2] at this
    simp only [cond_false, pairB, hi, hj, Bool.and_eq_true] at this
    obtain ⟨⟨⟨⟨⟨⟨p1, p2⟩, p3⟩, p4⟩, p5⟩, p6⟩, p7⟩ := this
    exact ⟨p1, p2, dis_spec p3, dis_spec p4, dis_spec p5, dis_spec p6, dis_spec p7⟩
  · have := key i j hi hj hne
    rw [h1] at this
    simp only [cond_true, lateB, Bool.and_eq_true] at this
    exact fun nm hnm => ⟨dis_spec this.1 nm hnm, dis_spec this.2 nm hnm⟩

/-- **A statement whose order is open: one walk serves every order.** -/
theorem draw_ok (hm : P.follows .mixedOrders = true) (c : Ctx P) (id : Nat) (ops : Array Oper) (K : St → Prop) (st : St) (a : Act) (w : World) (Q : Exit → Act → World → Prop) (hQ : ∀ st a w, StRel c st a w → K st → Q .normal a w)
    (h : StRel c st a w) (hK : drawA P fz ops st K) : (Code.region id ops true).wp P Q a w := by
  obtain ⟨tail, st', hrun, ⟨hcomp, htext⟩, hfree, hKs⟩ := drawOps_run hK (c := c) (a := a) (w := w)
  simp only [List.nil_append] at hcomp hfree
  obtain ⟨hgood, hlen⟩ := good_of hcomp
  have hd : StRel c st a { w with drawn := w.drawn + 1 } := by
    obtain ⟨I, hdr, F, hst⟩ := h
    exact ⟨I, hdr, F, hst.same (Same.drew w)⟩
  refine wp_region_any hm (wpAnyA_sound (fz := fz) (R := fun i => tail.getD i ⟨[], { val := .val undef }⟩) hQ ops.size _ st a _ hd ?_)
  have := lex (P := P) (fz := fz) (K := K) hgood htext ops.toList 0 (Array.replicate ops.size false) st st' tail (fun j => by simp) (fun j => ?_) (by simp) (fun j hj => by simp [hj]) ?_ ?_ hrun hKs
  · simpa using this
  · by_cases hj : j < tail.length
    · left
      rw [Nat.zero_add, List.getD_eq_getElem?_getD, List.getElem?_eq_getElem hj]; rfl
    · right; simp; omega
  · intro j o hj hl
    exfalso
    rcases Nat.lt_or_ge j ops.size with h' | h'
    · simp [h'] at hl
    · rw [Array.getD_eq_getD_getElem?, Array.getElem?_eq_none (by simp; omega)] at hl
      cases hl
  · intro k hk _ p hp
    refine hfree _ ?_ p hp
    show tail.getD k _ ∈ tail
    rw [List.getD_eq_getElem?_getD, List.getElem?_eq_getElem (by omega)]
    exact List.getElem_mem _
end
end Go.AM
