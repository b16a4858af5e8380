/-
  The abstract machine: calls that are handed memory of the caller's own, and hand it back.
-/
import Derived.Test.YtnimmbjbinpajaaDoorAmCall
set_option linter.unusedVariables false
set_option linter.unusedSimpArgs false
namespace Go.AM

/-- The same as a call's contract, both ends told by values. -/
def ACalls2 (P : Program) (f : FuncId) (args args' : List AV) (r : AV) : Prop := ACalls P f args fun as r' => as = args' ∧ r' = r

section
variable {P : Program} {c : Ctx P} {st : St} {a : Act} {w : World} {o : Oper} {I : Nat → Prop} {hdr : Nat → Option Value} {F : Nat → List Nat}

/-- A node comes back under its old name and header. -/
theorem StRelAt.back (h : StRelAt c st a w I hdr F) {d : Nat} (hn : st.o d = none) {x : AV} {B : List Nat} {v : Value} (hv : hdr d = some v)
    (hx : Rep w I hdr x B v) (hB : B.Nodup) (hBF : ∀ nm, st.o nm ≠ none → ∀ b, b ∈ F nm → b ∉ B) (hBI : ∀ b, b ∈ B → ¬ I b) (hBo : ∀ b, b ∈ B → b ∈ c.B0 ∨ c.w0.heap.size ≤ b) :
    StRelAt c (st.node d (some x)) a w I hdr (upd F d B) := by
  refine ⟨h.hI0, h.hIlt, h.hInew, h.fr, h.size, h.os, h.tape, h.out, h.df, h.n, h.sl, h.hone, ?_, ?_, ?_, ?_, ?_, h.pin⟩
  · intro nm y hy
    simp only [St.node] at hy
    by_cases e : nm = d
    · subst e
      rw [upd_same] at hy
      cases hy
      exact ⟨v, hv, by rw [upd_same]; exact hx⟩
    · rw [upd_ne _ _ _ e] at hy
      obtain ⟨u, hu, hr⟩ := h.ob nm y hy
      exact ⟨u, hu, by rw [upd_ne _ _ _ e]; exact hr⟩
  · intro nm hy
    simp only [St.node] at hy
    by_cases e : nm = d
    · subst e; rw [upd_same]; exact hB
    · rw [upd_ne _ _ _ e] at hy ⊢; exact h.nd nm hy
  · intro nm nm' hne hy hy' b hb hb'
    simp only [St.node] at hy hy'
    by_cases e : nm = d
    · subst e
      rw [upd_same] at hb
      rw [upd_ne _ _ _ (fun e => hne e.symm)] at hy' hb'
      exact hBF nm' hy' b hb' hb
    · by_cases e' : nm' = d
      · subst e'
        rw [upd_same] at hb'
        rw [upd_ne _ _ _ e] at hy hb
        exact hBF nm hy b hb hb'
      · rw [upd_ne _ _ _ e] at hy hb
        rw [upd_ne _ _ _ e'] at hy' hb'
        exact h.dj nm nm' hne hy hy' b hb hb'
  · intro nm hy b hb
    simp only [St.node] at hy
    by_cases e : nm = d
    · subst e; rw [upd_same] at hb; exact hBI b hb
    · rw [upd_ne _ _ _ e] at hy hb; exact h.oi nm hy b hb
  · intro nm hy b hb
    simp only [St.node] at hy
    by_cases e : nm = d
    · subst e; rw [upd_same] at hb; exact hBo b hb
    · rw [upd_ne _ _ _ e] at hy hb; exact h.oo nm hy b hb

/-- Many come back. -/
theorem StRelAt.backs : ∀ {ps : List (Nat × AV)} {st : St} {F : Nat → List Nat} {hs : List Value} {B : List Nat}, StRelAt c st a w I hdr F → (ps.map (·.1)).Nodup → (∀ p, p ∈ ps → st.o p.1 = none) → Nodes w I ps hs B → Tells hdr ps hs → B.Nodup →
    (∀ nm, st.o nm ≠ none → ∀ b, b ∈ F nm → b ∉ B) → (∀ b, b ∈ B → ¬ I b) → (∀ b, b ∈ B → b ∈ c.B0 ∨ c.w0.heap.size ≤ b) → ∃ F', StRelAt c (st.nws ps) a w I hdr F' ∧ ∀ nm, (st.nws ps).o nm ≠ none → ∀ b, b ∈ F' nm → b ∈ B ∨ (st.o nm ≠ none ∧ b ∈ F nm)
  | [], st, F, hs, B, h, _, _, _, _, _, _, _, _ => ⟨F, h, fun nm hx b hb => .inr ⟨hx, hb⟩⟩
  | p :: ps, st, F, hs, B, h, hnd, hno, hn, ht, hB, hBF, hBI, hBo => by
    simp only [Nodes] at hn
    obtain ⟨u, us, B₁, B₂, rfl, rfl, h1, h2, h3⟩ := hn
    simp only [Tells] at ht
    simp only [List.map_cons, List.nodup_cons] at hnd
    have hd := List.nodup_append.1 hB
    have hb1 := h.back (hno p (by simp)) ht.1 (rep_nohdr_of_none hdr h2) hd.1 (fun nm hx b hb hb1 => hBF nm hx b hb (by simp [hb1])) (fun b hb => hBI b (by simp [hb])) (fun b hb => hBo b (by simp [hb]))
    have hno' : ∀ q, q ∈ ps → (st.node p.1 (some p.2)).o q.1 = none := by
      intro q hq
      have hne : q.1 ≠ p.1 := fun e => hnd.1 (e ▸ List.mem_map_of_mem hq)
      simp only [St.node]
      rw [upd_ne _ _ _ hne]
      exact hno q (by simp [hq])
    have hBF' : ∀ nm, (st.node p.1 (some p.2)).o nm ≠ none → ∀ b, b ∈ upd F p.1 B₁ nm → b ∉ B₂ := by
      intro nm hx b hb hb2
      by_cases e : nm = p.1
      · subst e
        rw [upd_same] at hb
        exact hd.2.2 b hb b hb2 rfl
      · rw [upd_ne _ _ _ e] at hb
        simp only [St.node] at hx
        rw [upd_ne _ _ _ e] at hx
        exact hBF nm hx b hb (by simp [hb2])
    obtain ⟨F', h', hk⟩ := StRelAt.backs hb1 hnd.2 hno' h3 ht.2 hd.2.1 hBF' (fun b hb => hBI b (by simp [hb])) (fun b hb => hBo b (by simp [hb]))
    refine ⟨F', h', fun nm hx b hb => ?_⟩
    rcases hk nm hx b hb with hb | ⟨hy, hb⟩
    · exact .inl (by simp [hb])
    · by_cases e : nm = p.1
      · subst e
        rw [upd_same] at hb
        exact .inl (by simp [hb])
      · rw [upd_ne _ _ _ e] at hb
        simp only [St.node] at hy
        rw [upd_ne _ _ _ e] at hy
        exact .inr ⟨hy, hb⟩

/-- Many are forgotten. -/
def St.drops (st : St) (ns : List Nat) : St := ⟨st.s, fun nm => if nm ∈ ns then none else st.o nm, st.n⟩
theorem StRelAt.drops (h : StRelAt c st a w I hdr F) (ns : List Nat) : StRelAt c (st.drops ns) a w I hdr F := by
  have key : ∀ x y, (st.drops ns).o x = some y → st.o x = some y := by
    intro x y hx
    simp only [St.drops] at hx
    split at hx
    · cases hx
    · exact hx
  have key' : ∀ x, (st.drops ns).o x ≠ none → st.o x ≠ none := by
    intro x hx e
    apply hx
    simp only [St.drops]
    split
    · rfl
    · exact e
  exact ⟨h.hI0, h.hIlt, h.hInew, h.fr, h.size, h.os, h.tape, h.out, h.df, h.n, h.sl, h.hone, fun x y hx => h.ob x y (key x y hx), fun x hx => h.nd x (key' x hx), fun x y hne hx hy => h.dj x y hne (key' x hx) (key' y hy),
    fun x hx => h.oi x (key' x hx), fun x hx => h.oo x (key' x hx), h.pin⟩

/-! ### What is handed over -/
/-- The names in an argument. -/
def nmB : AV → List Nat
  | .agg l => l.flatMap nmB1
  | .pt nm 0 => [nm]
  | x => nmB1 x
def back1 : AV → AV → List (Nat × AV)
  | .ref nm, y => [(nm, y)]
  | _, _ => []
def zipBack : List AV → List AV → List (Nat × AV)
  | x :: xs, y :: ys => back1 x y ++ zipBack xs ys
  | _, _ => []
/-- What comes back under which name. -/
def back2 : AV → AV → List (Nat × AV)
  | .agg l, .agg l' => zipBack l l'
  | .pt nm 0, .box l => [(nm, .box l)]
  | x, y => back1 x y
def backL : List AV → List AV → List (Nat × AV)
  | x :: xs, y :: ys => back2 x y ++ backL xs ys
  | _, _ => []
/-- An argument with what it owns. -/
def rsv2 (o : Nat → Option AV) : AV → AV
  | .agg l => .agg (l.map (rsv1 o))
  | .pt nm 0 => match o nm with
    | some (.box l) => .box l
    | _ => .pt nm 0
  | x => rsv1 o x

theorem box_hdr {w : World} {I : Nat → Prop} {hdr' : Nat → Option Value} {l : List AV} {B : List Nat} {u : Value} (h : Rep w I hdr' (.box l) B u) : ∃ b, u = .pointer (some ⟨b, 0, none⟩) := by
  simp only [Rep] at h
  obtain ⟨b, C, ty, B', hv, _⟩ := h
  exact ⟨b, hv⟩

theorem hand2 (h : StRelAt c st a w I hdr F) : HandOver st w I hdr F (rsv2 st.o) nmB := by
  intro x v hx hn
  cases x with
  | agg l =>
    simp only [rsv2, nmB] at hn ⊢
    simp only [Rep] at hx
    obtain ⟨cs, e, hr⟩ := hx
    obtain ⟨B, r, d, k⟩ := hand_list h (hand1 h) hr hn
    exact ⟨B, by simp only [Rep]; exact ⟨cs, e, r⟩, d, k⟩
  | pt nm off =>
    cases off with
    | succ k => exact ⟨[], by simpa [rsv2, rsv1] using hx, List.nodup_nil, fun b hb => by cases hb⟩
    | zero =>
      simp only [rsv2, nmB]
      split
      · rename_i l ho
        simp only [Rep] at hx
        obtain ⟨_, u, ad, hu, had, hv⟩ := hx
        obtain ⟨u', hu', hr⟩ := h.ob nm _ ho
        rw [hu] at hu'
        cases hu'
        obtain ⟨b, e⟩ := box_hdr hr
        subst e
        simp only [addrOf, Option.some.injEq] at had
        subst had
        have hne : st.o nm ≠ none := by rw [ho]; simp
        refine ⟨F nm, by rw [hv, add_zero]; exact hr, h.nd nm hne, fun b hb => ⟨nm, by simp, hne, hb⟩⟩
      · exact ⟨[], hx, List.nodup_nil, fun b hb => by cases hb⟩
  | _ => exact hand1 h _ v hx hn

/-- What has come back, node by node. -/
theorem zipBack_rep {w' : World} {I' : Nat → Prop} : ∀ {l l' : List AV} {vs : List Value} {B : List Nat}, RepL w I hdr l [] vs → RepL w' I' (fun _ => none) l' B vs → (∀ nm h, hdr nm = some h → h.oneCell' = true) →
    ∃ hs B', Nodes w' I' (zipBack l l') hs B' ∧ Tells hdr (zipBack l l') hs ∧ B'.Sublist B
  | [], [], vs, B, _, _, _ => ⟨[], [], ⟨rfl, rfl⟩, trivial, List.nil_sublist _⟩
  | [], _ :: _, vs, B, _, _, _ => ⟨[], [], ⟨rfl, rfl⟩, trivial, List.nil_sublist _⟩
  | _ :: _, [], vs, B, _, _, _ => ⟨[], [], ⟨rfl, rfl⟩, trivial, List.nil_sublist _⟩
  | x :: xs, y :: ys, vs, B, hl, hl', hone => by
    simp only [RepL] at hl hl'
    obtain ⟨A₁, A₂, v, vs', e, rfl, h1, h2⟩ := hl
    obtain ⟨rfl, rfl⟩ : A₁ = [] ∧ A₂ = [] := by simpa using e.symm
    obtain ⟨B₁, B₂, v', vs'', rfl, e', h1', h2'⟩ := hl'
    simp only [List.cons.injEq] at e'
    obtain ⟨rfl, rfl⟩ := e'
    obtain ⟨hs, B', n, t, s⟩ := zipBack_rep h2 h2' hone
    cases x with
    | ref nm =>
      simp only [Rep] at h1
      refine ⟨v :: hs, B₁ ++ B', ?_, ?_, (List.Sublist.refl _).append s⟩
      · simp only [zipBack, back1, List.cons_append, List.nil_append, Nodes]
        exact ⟨v, hs, B₁, B', rfl, rfl, hone nm v h1.2, h1', n⟩
      · simp only [zipBack, back1, List.cons_append, List.nil_append, Tells]
        exact ⟨h1.2, t⟩
    | _ => exact ⟨hs, B', n, t, s.trans (List.sublist_append_right _ _)⟩

theorem back2_rep (h : StRelAt c st a w I hdr F) {w' : World} {I' : Nat → Prop} {x y : AV} {v : Value} {B : List Nat} (hx : Rep w I hdr x [] v) (hn : nrf (rsv2 st.o x) = true) (hy : Rep w' I' (fun _ => none) y B v) :
    ∃ hs B', Nodes w' I' (back2 x y) hs B' ∧ Tells hdr (back2 x y) hs ∧ B'.Sublist B := by
  have one : ∀ x y, Rep w I hdr x [] v → Rep w' I' (fun _ => none) y B v → ∃ hs B', Nodes w' I' (back1 x y) hs B' ∧ Tells hdr (back1 x y) hs ∧ B'.Sublist B := by
    intro x y hx hy
    cases x with
    | ref nm =>
      simp only [Rep] at hx
      refine ⟨[v], B, ?_, ⟨hx.2, trivial⟩, List.Sublist.refl _⟩
      exact ⟨v, [], B, [], rfl, by simp, h.hone nm v hx.2, hy, rfl, rfl⟩
    | _ => exact ⟨[], [], ⟨rfl, rfl⟩, trivial, List.nil_sublist _⟩
  unfold back2
  split
  · rename_i l l'
    simp only [Rep] at hx hy
    obtain ⟨cs, e, hr⟩ := hx
    obtain ⟨cs', e', hr'⟩ := hy
    subst e
    cases e'
    exact zipBack_rep hr hr' h.hone
  · rename_i nm l
    simp only [rsv2] at hn
    split at hn
    · rename_i l0 ho
      simp only [Rep] at hx
      obtain ⟨_, u, ad, hu, had, hv⟩ := hx
      obtain ⟨u', hu', hr⟩ := h.ob nm _ ho
      rw [hu] at hu'
      cases hu'
      obtain ⟨b, e⟩ := box_hdr hr
      subst e
      simp only [addrOf, Option.some.injEq] at had
      subst had
      rw [add_zero] at hv
      subst hv
      exact ⟨[_], B, ⟨_, [], B, [], rfl, by simp, rfl, hy, rfl, rfl⟩, ⟨hu, trivial⟩, List.Sublist.refl _⟩
    · simp [nrf] at hn
  · exact one _ _ hx hy

theorem Nodes.app {w : World} {I : Nat → Prop} {ps ps' : List (Nat × AV)} {hs hs' : List Value} {B B' : List Nat} (h : Nodes w I ps hs B) (h' : Nodes w I ps' hs' B') : Nodes w I (ps ++ ps') (hs ++ hs') (B ++ B') := h.append h'
theorem Tells.app {hdr : Nat → Option Value} : ∀ {ps : List (Nat × AV)} {hs : List Value} {ps' : List (Nat × AV)} {hs' : List Value}, ps.length = hs.length → Tells hdr ps hs → Tells hdr ps' hs' → Tells hdr (ps ++ ps') (hs ++ hs')
  | [], [], _, _, _, _, h => h
  | p :: ps, u :: hs, ps', hs', he, h, h' => by
    simp only [List.cons_append, Tells] at h ⊢
    exact ⟨h.1, Tells.app (by simpa using he) h.2 h'⟩
  | [], _ :: _, _, _, he, _, _ => by simp at he
  | _ :: _, [], _, _, he, _, _ => by simp at he

theorem backL_rep (h : StRelAt c st a w I hdr F) {w' : World} {I' : Nat → Prop} : ∀ {xs ys : List AV} {vs : List Value} {B : List Nat}, RepL w I hdr xs [] vs → xs.all (fun x => nrf (rsv2 st.o x)) = true → RepL w' I' (fun _ => none) ys B vs →
    ∃ hs B', Nodes w' I' (backL xs ys) hs B' ∧ Tells hdr (backL xs ys) hs ∧ B'.Sublist B
  | [], [], vs, B, _, _, _ => ⟨[], [], ⟨rfl, rfl⟩, trivial, List.nil_sublist _⟩
  | [], _ :: _, vs, B, _, _, _ => ⟨[], [], ⟨rfl, rfl⟩, trivial, List.nil_sublist _⟩
  | _ :: _, [], vs, B, _, _, _ => ⟨[], [], ⟨rfl, rfl⟩, trivial, List.nil_sublist _⟩
  | x :: xs, y :: ys, vs, B, hl, hn, hl' => by
    simp only [List.all_cons, Bool.and_eq_true] at hn
    simp only [RepL] at hl hl'
    obtain ⟨A₁, A₂, v, vs', e, rfl, h1, h2⟩ := hl
    obtain ⟨rfl, rfl⟩ : A₁ = [] ∧ A₂ = [] := by simpa using e.symm
    obtain ⟨B₁, B₂, v', vs'', rfl, e', h1', h2'⟩ := hl'
    simp only [List.cons.injEq] at e'
    obtain ⟨rfl, rfl⟩ := e'
    obtain ⟨hs₁, C₁, n1, t1, s1⟩ := back2_rep h h1 hn.1 h1'
    obtain ⟨hs₂, C₂, n2, t2, s2⟩ := backL_rep h h2 hn.2 h2'
    simp only [backL]
    exact ⟨hs₁ ++ hs₂, C₁ ++ C₂, n1.append n2, Tells.app n1.length.symm t1 t2, s1.append s2⟩

/-- A call that is handed nodes and hands them back. -/
def callOwn (P : Program) (st : St) (dst : Option Nat) (callee : AV) (xs : List AV) (K : Eff → Prop) : Prop := match callee with
  | .fn f [] => xs.all (fun x => nrf (rsv2 st.o x)) = true ∧ (xs.flatMap nmB).Nodup ∧ ∃ args' r, ACalls2 P f (xs.map (rsv2 st.o)) args' r ∧ (backL xs args').map (·.1) = xs.flatMap nmB ∧
      K { resEff dst r with ws := (backL xs args').map fun p => (p.1, some p.2), rd := true }
  | _ => False

/-- A call of which not one result alone is told, but what each result is. -/
def callRel (P : Program) (st : St) (dst : Option Nat) (callee : AV) (xs : List AV) (K : Eff → Prop) : Prop := match callee with
  | .fn f [] => xs.all (fun x => nrf (rsv2 st.o x)) = true ∧ (xs.flatMap nmB).Nodup ∧ ∃ R, ACalls P f (xs.map (rsv2 st.o)) R ∧ ∀ as r, R as r → (backL xs as).map (·.1) = xs.flatMap nmB ∧
      K { resEff dst r with ws := (backL xs as).map fun p => (p.1, some p.2), rd := true }
  | _ => False
theorem nws_ws : ∀ (l : List (Nat × AV)) (st : St), st.nws l = st.ws (l.map fun p => (p.1, some p.2))
  | [], st => rfl
  | p :: l, st => by simp only [St.nws, List.map_cons, St.ws]; exact nws_ws l _

theorem nws_drops : ∀ (l : List (Nat × AV)) (st : St) (ns : List Nat), (∀ n, n ∈ ns → n ∈ l.map (·.1)) → (st.drops ns).nws l = st.nws l := by
  have key : ∀ (l : List (Nat × AV)) (st st' : St), st.s = st'.s → st.n = st'.n → (∀ nm, nm ∉ l.map (·.1) → st.o nm = st'.o nm) → st.nws l = st'.nws l := by
    intro l
    induction l with
    | nil =>
      intro st st' h1 h2 h3
      obtain ⟨s, o, n⟩ := st
      obtain ⟨s', o', n'⟩ := st'
      simp only at h1 h2
      subst h1; subst h2
      have : o = o' := funext fun nm => h3 nm (by simp)
      subst this; rfl
    | cons p l ih =>
      intro st st' h1 h2 h3
      simp only [St.nws]
      refine ih _ _ h1 h2 fun nm hnm => ?_
      simp only [St.node, upd]
      split
      · rfl
      · rename_i hne
        exact h3 nm (by simp only [List.map_cons, List.mem_cons, not_or]; exact ⟨hne, hnm⟩)
  intro l st ns hns
  refine key l _ _ rfl rfl fun nm hnm => ?_
  simp only [St.drops]
  rw [if_neg (fun h => hnm (hns nm h))]

theorem s_callRel (h : StRelAt c st a w I hdr F) {f : Operand} {args : Array Operand} {ts : Array TypeId} {K : Eff → Prop} (ho : o.op = .call { callee := .value f, args, argTypes := ts })
    (hK : callRel P st o.dst (opv st f) (args.toList.map (opv st)) K) : Goes P o c st a w K := by
  unfold callRel at hK
  split at hK
  case h_2 => exact hK.elim
  rename_i g hg
  obtain ⟨hn, hnd, R, hc, hall⟩ := hK
  have hv := rep_opv h f
  rw [hg] at hv
  obtain ⟨cs, hfv, hcaps⟩ := fnCaps_rep h hv
  have hcs : cs.toList = [] := by
    simp only [RepL] at hcaps
    exact hcaps.2
  have hargs := rep_opvs h args.toList
  obtain ⟨hfn, hcon⟩ := hc
  have hres : ∀ w, (execOp a.eval o).run P w = .ok (.enter g ((args.toList.map a.eval)).toArray) w := by
    intro w
    have h1 : (args.map a.eval) ++ cs = ((args.toList.map a.eval) ++ cs.toList).toArray := by simp
    have : (execOp a.eval o).run P w = .ok (.enter g ((args.toList.map a.eval) ++ cs.toList).toArray) w := by
      simp [execOp, ho, resolve, hfv, Deferred.ofValue, invoke, run_callFunc hfn]
    rw [this, hcs, List.append_nil]
  generalize hxs : args.toList.map (opv st) = xs at *
  obtain ⟨B, hrB, hBn, hBo⟩ := hand_list h (hand2 h) hargs hnd
  have hrB' : RepL w I (fun _ => none) (xs.map (rsv2 st.o)) B (args.toList.map a.eval) := by
    have : nrfL (xs.map (rsv2 st.o)) = true := by
      have key : ∀ l : List AV, l.all (fun x => nrf (rsv2 st.o x)) = true → nrfL (l.map (rsv2 st.o)) = true := by
        intro l
        induction l with
        | nil => intro _; rfl
        | cons y ys ih => intro hl; simp only [List.all_cons, Bool.and_eq_true] at hl; simp only [List.map_cons, nrfL, hl.1, ih hl.2, Bool.and_self]
      exact key xs hn
    exact RepL.nohdr (fun _ => none) _ _ _ this hrB
  intro K' Q hQ
  unfold Oper.wp
  rw [hres w]
  simp only [Oper.upon]
  have hBI : ∀ b, b ∈ B → ¬ I b := fun b hb => by
    obtain ⟨nm, _, hne, hF⟩ := hBo b hb
    exact h.oi nm hne b hF
  refine (hcon w I B _ h.hIlt h.gok hrB' hBn hBI).mono ?_
  rintro e w' ⟨args', r', v, I', B₁, B₂, hRr, rfl, hII', hI'b, hI'new, hrr, hra, hnod, hBn', hfr, hsz, ho1, ho2, ho3⟩
  obtain ⟨hnames, hK⟩ := hall args' r' hRr
  refine hQ _ _ _ hK fun hok => ?_
  -- all that was handed over is forgotten
  let ns := xs.flatMap nmB
  have hd := h.drops ns
  have hnotin : ∀ nm, (st.drops ns).o nm ≠ none → ∀ b, b ∈ F nm → b ∉ B := by
    intro nm hx b hb hbB
    have hnm : nm ∉ ns := by
      intro hin
      apply hx
      simp only [St.drops]
      rw [if_pos hin]
    have hne : st.o nm ≠ none := by
      intro e
      apply hx
      simp only [St.drops]
      rw [e]; split <;> rfl
    obtain ⟨nm', hm, hne', hF'⟩ := hBo b hbB
    exact h.dj nm nm' (fun e => hnm (e ▸ hm)) hne hne' b hb hF'
  have hBo0 : ∀ b, b ∈ B → b ∈ c.B0 ∨ c.w0.heap.size ≤ b := fun b hb => by
    obtain ⟨nm, _, hne, hF⟩ := hBo b hb
    exact h.oo nm hne b hF
  have hBlt : ∀ b, b ∈ B → b < w.heap.size := fun b hb => by
    obtain ⟨nm, _, hne, hF⟩ := hBo b hb
    exact h.F_lt hne hF
  have h2 : StRelAt c (st.drops ns) a w' I' hdr F := hd.step B hBI hnotin hBo0 hII' hI'new hI'b hfr hsz ho1 ho2 ho3
  -- what comes back
  obtain ⟨hs, B₃, hnodes, htells, hsub⟩ := backL_rep h hargs hn hra
  have hnod' := List.nodup_append.1 hnod
  have hB3 : ∀ b, b ∈ B₃ → b ∈ B₁ ++ B₂ := fun b hb => by simp [hsub.subset hb]
  have hBF : ∀ nm, (st.drops ns).o nm ≠ none → ∀ b, b ∈ F nm → b ∉ B₁ ++ B₂ := by
    intro nm hx b hb hb2
    rcases (hBn' b hb2).2 with h1 | h1
    · exact hnotin nm hx b hb h1
    · have := hd.F_lt hx hb; omega
  have hBoo : ∀ b, b ∈ B₁ ++ B₂ → b ∈ c.B0 ∨ c.w0.heap.size ≤ b := fun b hb => by
    rcases (hBn' b hb).2 with h1 | h1
    · exact hBo0 b h1
    · right; have := h.size; omega
  obtain ⟨F', h3, hF'⟩ := StRelAt.backs h2 (ps := backL xs args') (by rw [hnames]; exact hnd) (fun p hp => by
      simp only [St.drops]
      rw [if_pos]
      show p.1 ∈ xs.flatMap nmB
      rw [← hnames]; exact List.mem_map_of_mem hp) hnodes htells (hsub.nodup hnod'.2.1) (fun nm hx b hb hb3 => hBF nm hx b hb (hB3 b hb3)) (fun b hb => (hBn' b (hB3 b hb)).1) (fun b hb => hBoo b (hB3 b hb))
  rw [nws_drops _ _ _ (fun n hn => by rw [hnames]; exact hn)] at h3
  rw [nws_ws] at h3
  -- and the result
  cases hdst : o.dst with
  | none =>
    simp only [hdst, resEff, St.app, St.nws, St.put, Act.put]
    exact ⟨I', hdr, F', h3⟩
  | some d =>
    simp only [hdst, resEff, Eff.ok] at hok
    obtain ⟨hdn, hnews⟩ := hok
    obtain ⟨hs', hnodes', htell⟩ := opn_rep r' d B₁ v hrr
    have hB1F : ∀ nm, (st.ws ((backL xs args').map fun p => (p.1, some p.2))).o nm ≠ none → ∀ b, b ∈ F' nm → b ∉ B₁ := by
      intro nm hx b hb hb1
      rw [← nws_ws, ← nws_drops _ _ ns (fun n hn => by rw [hnames]; exact hn)] at hx
      rcases hF' nm hx b hb with h4 | ⟨h4, h5⟩
      · exact hnod'.2.2 b hb1 b (hsub.subset h4) rfl
      · exact hBF nm h4 b h5 (by simp [hb1])
    obtain ⟨hdr', F'', h4, ht, _⟩ := names h3 hnews hnodes' hnod'.1 hB1F (fun b hb => (hBn' b (by simp [hb])).1) (fun b hb => hBoo b (by simp [hb]))
    simp only [hdst, resEff, St.app]
    have hn3 : d < ((st.ws ((backL xs args').map fun p => (p.1, some p.2))).nws (opn d r').2).n := by
      have k1 : ∀ (l : List (Nat × AV)) (s : St), (s.nws l).n = s.n := by
        intro l
        induction l with
        | nil => intro s; rfl
        | cons p l ih => intro s; simp only [St.nws, ih]; rfl
      rw [k1, ← nws_ws, k1]; exact hdn d rfl
    exact ⟨I', hdr', F'', h4.put hn3 (htell hdr' ht)⟩
theorem s_callOwn (h : StRelAt c st a w I hdr F) {f : Operand} {args : Array Operand} {ts : Array TypeId} {K : Eff → Prop} (ho : o.op = .call { callee := .value f, args, argTypes := ts })
    (hK : callOwn P st o.dst (opv st f) (args.toList.map (opv st)) K) : Goes P o c st a w K := by
  refine s_callRel h ho ?_
  unfold callOwn at hK
  unfold callRel
  split at hK
  case h_2 => exact hK.elim
  rename_i g hg
  obtain ⟨hn, hnd, as', r, hc, hnames, hK⟩ := hK
  exact ⟨hn, hnd, _, hc, fun as r' ⟨e1, e2⟩ => by subst e1; subst e2; exact ⟨hnames, hK⟩⟩

end
end Go.AM
