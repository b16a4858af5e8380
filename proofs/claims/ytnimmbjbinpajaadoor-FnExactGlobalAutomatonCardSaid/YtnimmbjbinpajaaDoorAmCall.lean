/-
  The abstract machine: contracts of Go functions, and calls.
-/
import Derived.Test.YtnimmbjbinpajaaDoorAmOps
set_option linter.unusedVariables false
set_option linter.unusedSimpArgs false
set_option linter.unnecessarySimpa false
namespace Go.AM

/-- What a call of function `f` with these arguments comes to: it hands back `r`; all that was there before is as it was. (Arguments that are `own`, `box`, `mp` are handed over: `R` tells what they hold behind the call.) -/
def ACalls (P : Program) (f : FuncId) (args : List AV) (R : List AV → AV → Prop) : Prop :=
  (∃ fn, P.funcs[f]? = some fn ∧ fn.body.isSome = true ∧ (fn.name == "runtime.NumGoroutine") = false) ∧
  ∀ (w : World) (I : Nat → Prop) (B : List Nat) (vs : List Value), (∀ b, I b → b < w.heap.size) → GOK P w I → RepL w I (fun _ => none) args B vs → B.Nodup → (∀ b, b ∈ B → ¬ I b) →
    Calls P f vs.toArray w fun e w' => ∃ args' r v I' B₁ B₂, R args' r ∧ e = .returned v ∧ (∀ b, I b → I' b) ∧ (∀ b, I' b → b < w'.heap.size) ∧ (∀ b, I' b → I b ∨ w.heap.size ≤ b ∨ b ∈ B) ∧
      Rep w' I' (fun _ => none) r B₁ v ∧ RepL w' I' (fun _ => none) args' B₂ vs ∧ (B₁ ++ B₂).Nodup ∧ (∀ b, b ∈ B₁ ++ B₂ → ¬ I' b ∧ (b ∈ B ∨ w.heap.size ≤ b)) ∧
      (∀ b, b < w.heap.size → b ∉ B → w'.heap[b]? = w.heap[b]?) ∧ w.heap.size ≤ w'.heap.size ∧ w'.os = w.os ∧ w'.tape = w.tape ∧ OutOk w' w

/-- The same, of a call that owns no argument. -/
def ACalls1 (P : Program) (f : FuncId) (args : List AV) (r : AV) : Prop := ACalls P f args fun _ r' => r' = r

mutual
/-- It says nothing of memory that nobody writes. -/
def pur : AV → Bool
  | .junk => true
  | .val _ => true
  | .agg l => purL l
  | .tup l => purL l
  | .own _ _ l => purL l
  | .box l => purL l
  | _ => false
def purL : List AV → Bool
  | [] => true
  | x :: xs => pur x && purL xs
end

mutual
theorem Rep.pur {w : World} {I I' : Nat → Prop} {hdr : Nat → Option Value} : ∀ (x : AV) (B : List Nat) (v : Value), pur x = true → Rep w I hdr x B v → Rep w I' hdr x B v
  | .junk, _, _, _, h => by simpa only [Rep] using h
  | .val x, _, _, _, h => by simpa only [Rep] using h
  | .agg l, B, v, hn, h => by
    simp only [Rep, AM.pur] at h hn ⊢
    obtain ⟨cs, e, h⟩ := h
    exact ⟨cs, e, RepL.pur l B _ hn h⟩
  | .tup l, B, v, hn, h => by
    simp only [Rep, AM.pur] at h hn ⊢
    obtain ⟨cs, e, h⟩ := h
    exact ⟨cs, e, RepL.pur l B _ hn h⟩
  | .own sz nn l, B, v, hn, h => by
    simp only [Rep, AM.pur] at h hn ⊢
    refine h.imp id ?_
    rintro ⟨b, n, c, C, ty, B', hv, hb, hC, h1, h2, h3, h⟩
    exact ⟨b, n, c, C, ty, B', hv, hb, hC, h1, h2, h3, RepL.pur l B' _ hn h⟩
  | .box l, B, v, hn, h => by
    simp only [Rep, AM.pur] at h hn ⊢
    obtain ⟨b, C, ty, B', hv, hb, hC, h⟩ := h
    exact ⟨b, C, ty, B', hv, hb, hC, RepL.pur l B' _ hn h⟩
  | .sl .., _, _, hn, _ => by simp [AM.pur] at hn
  | .ip _, _, _, hn, _ => by simp [AM.pur] at hn
  | .fn .., _, _, hn, _ => by simp [AM.pur] at hn
  | .fb .., _, _, hn, _ => by simp [AM.pur] at hn
  | .fno .., _, _, hn, _ => by simp [AM.pur] at hn
  | .mp _, _, _, hn, _ => by simp [AM.pur] at hn
  | .opw _ _, _, _, hn, _ => by simp [AM.pur] at hn
  | .ref _, _, _, hn, _ => by simp [AM.pur] at hn
  | .pt .., _, _, hn, _ => by simp [AM.pur] at hn
  | .sfx .., _, _, hn, _ => by simp [AM.pur] at hn
  | .pfx .., _, _, hn, _ => by simp [AM.pur] at hn
theorem RepL.pur {w : World} {I I' : Nat → Prop} {hdr : Nat → Option Value} : ∀ (l : List AV) (B : List Nat) (vs : List Value), purL l = true → RepL w I hdr l B vs → RepL w I' hdr l B vs
  | [], _, _, _, h => by simpa only [RepL] using h
  | x :: xs, B, vs, hn, h => by
    simp only [RepL, purL, Bool.and_eq_true] at h hn ⊢
    obtain ⟨B₁, B₂, v, vs', e1, e2, h1, h2⟩ := h
    exact ⟨B₁, B₂, v, vs', e1, e2, Rep.pur x B₁ v hn.1 h1, RepL.pur xs B₂ vs' hn.2 h2⟩
end

/-! ### A result's nodes get names -/
mutual
def opn (d : Nat) : AV → AV × List (Nat × AV)
  | .own sz nn l => (.ref d, [(d, .own sz nn l)])
  | .mp es => (.ref d, [(d, .mp es)])
  | .opw sz l => (.ref d, [(d, .opw sz l)])
  | .box l => (.pt d 0, [(d, .box l)])
  | .agg l => (.agg (opnL (1000 * (d + 1)) l).1, (opnL (1000 * (d + 1)) l).2)
  | .tup l => (.tup (opnL (1000 * (d + 1)) l).1, (opnL (1000 * (d + 1)) l).2)
  | .fno f l => (.fno f (opnL (1000 * (d + 1)) l).1, (opnL (1000 * (d + 1)) l).2)
  | .junk => (.junk, [])
  | .val v => (.val v, [])
  | .sl sz nn l => (.sl sz nn l, [])
  | .ip l => (.ip l, [])
  | .fn f caps => (.fn f caps, [])
  | .fb f caps => (.fb f caps, [])
  | .ref nm => (.ref nm, [])
  | .pt nm off => (.pt nm off, [])
  | .sfx nm off => (.sfx nm off, [])
  | .pfx nm k => (.pfx nm k, [])
def opnL (d : Nat) : List AV → List AV × List (Nat × AV)
  | [] => ([], [])
  | x :: xs => ((opn d x).1 :: (opnL (d + 1) xs).1, (opn d x).2 ++ (opnL (d + 1) xs).2)
end

/-- Nodes, their headers, their blocks. -/
def Nodes (w : World) (I : Nat → Prop) : List (Nat × AV) → List Value → List Nat → Prop
  | [], hs, B => hs = [] ∧ B = []
  | p :: ps, hs, B => ∃ h hs' B₁ B₂, hs = h :: hs' ∧ B = B₁ ++ B₂ ∧ h.oneCell' = true ∧ Rep w I (fun _ => none) p.2 B₁ h ∧ Nodes w I ps hs' B₂

theorem Nodes.append {w : World} {I : Nat → Prop} : ∀ {ps : List (Nat × AV)} {hs : List Value} {B : List Nat} {ps' : List (Nat × AV)} {hs' : List Value} {B' : List Nat}, Nodes w I ps hs B → Nodes w I ps' hs' B' → Nodes w I (ps ++ ps') (hs ++ hs') (B ++ B')
  | [], _, _, _, _, _, h, h' => by simp only [Nodes] at h; rw [h.1, h.2]; exact h'
  | p :: ps, hs, B, ps', hs', B', h, h' => by
    simp only [Nodes, List.cons_append] at h ⊢
    obtain ⟨u, us, B₁, B₂, rfl, rfl, h1, h2, h3⟩ := h
    exact ⟨u, us ++ hs', B₁, B₂ ++ B', rfl, by simp, h1, h2, h3.append h'⟩

theorem Nodes.length {w : World} {I : Nat → Prop} : ∀ {ps : List (Nat × AV)} {hs : List Value} {B : List Nat}, Nodes w I ps hs B → hs.length = ps.length
  | [], _, _, h => by simp only [Nodes] at h; rw [h.1]; rfl
  | p :: ps, hs, B, h => by
    simp only [Nodes] at h
    obtain ⟨u, us, B₁, B₂, rfl, rfl, h1, h2, h3⟩ := h
    simp [h3.length]

/-- `hdr` tells these headers. -/
def Tells (hdr : Nat → Option Value) : List (Nat × AV) → List Value → Prop
  | p :: ps, h :: hs => hdr p.1 = some h ∧ Tells hdr ps hs
  | _, _ => True

theorem Tells.left {hdr : Nat → Option Value} : ∀ {ps : List (Nat × AV)} {hs : List Value} {ps' : List (Nat × AV)} {hs' : List Value}, ps.length = hs.length → Tells hdr (ps ++ ps') (hs ++ hs') → Tells hdr ps hs ∧ Tells hdr ps' hs'
  | [], [], _, _, _, h => ⟨trivial, h⟩
  | p :: ps, u :: hs, ps', hs', he, h => by
    simp only [List.cons_append, Tells] at h ⊢
    have := Tells.left (by simpa using he) h.2
    exact ⟨⟨h.1, this.1⟩, this.2⟩
  | [], _ :: _, _, _, he, _ => by simp at he
  | _ :: _, [], _, _, he, _ => by simp at he

mutual
theorem opn_rep {w : World} {I : Nat → Prop} : ∀ (x : AV) (d : Nat) (B : List Nat) (v : Value), Rep w I (fun _ => none) x B v →
    ∃ hs, Nodes w I (opn d x).2 hs B ∧ ∀ hdr, Tells hdr (opn d x).2 hs → Rep w I hdr (opn d x).1 [] v
  | .junk, d, B, v, h => by simp only [Rep] at h; subst h; exact ⟨[], ⟨rfl, rfl⟩, fun _ _ => by simp [opn, Rep]⟩
  | .val x, d, B, v, h => by simp only [Rep] at h; obtain ⟨rfl, rfl⟩ := h; exact ⟨[], ⟨rfl, rfl⟩, fun _ _ => by simp [opn, Rep]⟩
  | .sl sz nn l, d, B, v, h => by
    have hB : B = [] := by simp only [Rep] at h; exact h.1
    subst hB
    exact ⟨[], ⟨rfl, rfl⟩, fun hdr _ => rep_nohdr_of_none hdr h⟩
  | .ip l, d, B, v, h => by
    have hB : B = [] := by simp only [Rep] at h; exact h.1
    subst hB
    exact ⟨[], ⟨rfl, rfl⟩, fun hdr _ => rep_nohdr_of_none hdr h⟩
  | .fn f caps, d, B, v, h => by
    have hB : B = [] := by simp only [Rep] at h; exact h.1
    subst hB
    exact ⟨[], ⟨rfl, rfl⟩, fun hdr _ => rep_nohdr_of_none hdr h⟩
  | .fb f caps, d, B, v, h => by
    have hB : B = [] := by simp only [Rep] at h; exact h.1
    subst hB
    exact ⟨[], ⟨rfl, rfl⟩, fun hdr _ => rep_nohdr_of_none hdr h⟩
  | .own sz nn l, d, B, v, h => by
    refine ⟨[v], ⟨v, [], B, [], rfl, by simp, ?_, h, rfl, rfl⟩, fun hdr ht => ?_⟩
    · simp only [Rep] at h
      rcases h with ⟨rfl, _⟩ | ⟨b, n, c, C, ty, B', rfl, _⟩ <;> rfl
    · simp only [opn, Tells, Rep] at ht ⊢
      exact ⟨trivial, ht.1⟩
  | .mp es, d, B, v, h => by
    refine ⟨[v], ⟨v, [], B, [], rfl, by simp, ?_, h, rfl, rfl⟩, fun hdr ht => ?_⟩
    · simp only [Rep] at h
      obtain ⟨b, ents, clock, B', rfl, _⟩ := h
      rfl
    · simp only [opn, Tells, Rep] at ht ⊢
      exact ⟨trivial, ht.1⟩
  | .opw sz l, d, B, v, h => by
    refine ⟨[v], ⟨v, [], B, [], rfl, by simp, ?_, h, rfl, rfl⟩, fun hdr ht => ?_⟩
    · simp only [Rep] at h
      obtain ⟨b, n, c, C, ty, B', rfl, _⟩ := h
      rfl
    · simp only [opn, Tells, Rep] at ht ⊢
      exact ⟨trivial, ht.1⟩
  | .box l, d, B, v, h => by
    have h0 := h
    simp only [Rep] at h
    obtain ⟨b, C, ty, B', hv, hB, _⟩ := h
    refine ⟨[v], ⟨v, [], B, [], rfl, by simp, by rw [hv]; rfl, h0, rfl, rfl⟩, fun hdr ht => ?_⟩
    simp only [opn, Tells, Rep] at ht ⊢
    exact ⟨trivial, v, ⟨b, 0, none⟩, ht.1, by rw [hv]; rfl, by rw [hv, add_zero]⟩
  | .agg l, d, B, v, h => by
    simp only [Rep] at h
    obtain ⟨cs, rfl, h⟩ := h
    obtain ⟨hs, h1, h2⟩ := opnL_rep l (1000 * (d + 1)) B _ h
    refine ⟨hs, h1, fun hdr ht => ?_⟩
    simp only [opn, Rep]
    exact ⟨cs, rfl, h2 hdr ht⟩
  | .tup l, d, B, v, h => by
    simp only [Rep] at h
    obtain ⟨cs, rfl, h⟩ := h
    obtain ⟨hs, h1, h2⟩ := opnL_rep l (1000 * (d + 1)) B _ h
    refine ⟨hs, h1, fun hdr ht => ?_⟩
    simp only [opn, Rep]
    exact ⟨cs, rfl, h2 hdr ht⟩
  | .fno f l, d, B, v, h => by
    simp only [Rep] at h
    obtain ⟨cs, rfl, h⟩ := h
    obtain ⟨hs, h1, h2⟩ := opnL_rep l (1000 * (d + 1)) B _ h
    refine ⟨hs, h1, fun hdr ht => ?_⟩
    simp only [opn, Rep]
    exact ⟨cs, rfl, h2 hdr ht⟩
  | .ref nm, d, B, v, h => by simp [Rep] at h
  | .pt nm off, d, B, v, h => by simp [Rep] at h
  | .sfx nm off, d, B, v, h => by simp [Rep] at h
  | .pfx nm k, d, B, v, h => by simp [Rep] at h
theorem opnL_rep {w : World} {I : Nat → Prop} : ∀ (l : List AV) (d : Nat) (B : List Nat) (vs : List Value), RepL w I (fun _ => none) l B vs →
    ∃ hs, Nodes w I (opnL d l).2 hs B ∧ ∀ hdr, Tells hdr (opnL d l).2 hs → RepL w I hdr (opnL d l).1 [] vs
  | [], d, B, vs, h => by simp only [RepL] at h; obtain ⟨rfl, rfl⟩ := h; exact ⟨[], ⟨rfl, rfl⟩, fun _ _ => by simp [opnL, RepL]⟩
  | x :: xs, d, B, vs, h => by
    simp only [RepL] at h
    obtain ⟨B₁, B₂, v, vs', rfl, rfl, h1, h2⟩ := h
    obtain ⟨hs₁, n1, r1⟩ := opn_rep x d B₁ v h1
    obtain ⟨hs₂, n2, r2⟩ := opnL_rep xs (d + 1) B₂ vs' h2
    refine ⟨hs₁ ++ hs₂, n1.append n2, fun hdr ht => ?_⟩
    obtain ⟨t1, t2⟩ := Tells.left n1.length.symm ht
    simp only [opnL, RepL]
    exact ⟨[], [], v, vs', rfl, rfl, r1 hdr t1, r2 hdr t2⟩
end

section
variable {P : Program} {c : Ctx P} {st : St} {a : Act} {w : World} {o : Oper} {I : Nat → Prop} {hdr : Nat → Option Value} {F : Nat → List Nat}

/-- New nodes get their names. -/
theorem names : ∀ {ps : List (Nat × AV)} {st : St} {hdr : Nat → Option Value} {F : Nat → List Nat} {hs : List Value} {B : List Nat}, StRelAt c st a w I hdr F → newsOk st ps → Nodes w I ps hs B → B.Nodup →
    (∀ nm, st.o nm ≠ none → ∀ b, b ∈ F nm → b ∉ B) → (∀ b, b ∈ B → ¬ I b) → (∀ b, b ∈ B → b ∈ c.B0 ∨ c.w0.heap.size ≤ b) → ∃ hdr' F', StRelAt c (st.nws ps) a w I hdr' F' ∧ Tells hdr' ps hs ∧ (∀ x, (∀ p ∈ ps, p.1 ≠ x) → hdr' x = hdr x)
  | [], st, hdr, F, hs, B, h, _, _, _, _, _, _ => ⟨hdr, F, h, by simp [Tells], fun _ _ => rfl⟩
  | p :: ps, st, hdr, F, hs, B, h, hok, hn, hB, hBF, hBI, hBo => by
    simp only [Nodes] at hn
    obtain ⟨u, us, B₁, B₂, rfl, rfl, h1, h2, h3⟩ := hn
    simp only [newsOk] at hok
    obtain ⟨hfree, hnone, hno, hrest⟩ := hok
    have hnd := List.nodup_append.1 hB
    have hname := h.name hfree hnone (rep_nohdr_of_none hdr h2) hno h1 hnd.1 (fun nm hx b hb hb1 => hBF nm hx b hb (by simp [hb1])) (fun b hb => hBI b (by simp [hb])) (fun b hb => hBo b (by simp [hb]))
    have hBF' : ∀ nm, (st.node p.1 (some p.2)).o nm ≠ none → ∀ b, b ∈ upd F p.1 B₁ nm → b ∉ B₂ := by
      intro nm hx b hb hb2
      by_cases e : nm = p.1
      · subst e
        rw [upd_same] at hb
        exact hnd.2.2 b hb b hb2 rfl
      · rw [upd_ne _ _ _ e] at hb
        simp only [St.node] at hx
        rw [upd_ne _ _ _ e] at hx
        exact hBF nm hx b hb (by simp [hb2])
    obtain ⟨hdr', F', h', ht, hk⟩ := names hname hrest h3 hnd.2.1 hBF' (fun b hb => hBI b (by simp [hb])) (fun b hb => hBo b (by simp [hb]))
    refine ⟨hdr', F', h', ?_, fun x hx => ?_⟩
    · simp only [Tells]
      refine ⟨?_, ht⟩
      rw [hk p.1 (fun q hq e => ?_)]
      · exact upd_same _ _ _
      · -- a name comes once
        have key : ∀ {l : List (Nat × AV)} {s : St} {q : Nat × AV}, newsOk s l → q ∈ l → s.o q.1 = none := by
          intro l
          induction l with
          | nil => intro s q _ hq; cases hq
          | cons r l ih =>
            intro s q hs hq
            simp only [newsOk] at hs
            rcases List.mem_cons.1 hq with rfl | hq
            · exact hs.2.1
            · have := ih hs.2.2.2 hq
              simp only [St.node, upd] at this
              split at this
              · cases this
              · exact this
        have := key hrest hq
        simp only [St.node, e, upd_same] at this
        cases this
    · rw [hk x (fun q hq => hx q (by simp [hq]))]
      exact upd_ne _ _ _ (fun e => hx p (by simp) e.symm)

theorem newsOk_o : ∀ {l : List (Nat × AV)} {s : St} {q : Nat × AV}, newsOk s l → q ∈ l → s.o q.1 = none := by
  intro l
  induction l with
  | nil => intro s q _ hq; cases hq
  | cons r l ih =>
    intro s q hs hq
    simp only [newsOk] at hs
    rcases List.mem_cons.1 hq with rfl | hq
    · exact hs.2.1
    · have := ih hs.2.2.2 hq
      simp only [St.node, upd] at this
      split at this
      · cases this
      · exact this

/-- Behind a call: memory may have changed in blocks that are nobody's; more is from now on written by nobody. -/
theorem StRelAt.step (h : StRelAt c st a w I hdr F) (X : List Nat) {I' : Nat → Prop} {w' : World} (hXI : ∀ b, b ∈ X → ¬ I b) (hXF : ∀ nm, st.o nm ≠ none → ∀ b, b ∈ F nm → b ∉ X) (hXo : ∀ b, b ∈ X → b ∈ c.B0 ∨ c.w0.heap.size ≤ b)
    (hI : ∀ b, I b → I' b) (hI' : ∀ b, I' b → I b ∨ w.heap.size ≤ b ∨ b ∈ X) (hIb : ∀ b, I' b → b < w'.heap.size)
    (hw : ∀ b : Nat, b < w.heap.size → b ∉ X → w'.heap[b]? = w.heap[b]?) (hsz : w.heap.size ≤ w'.heap.size) (ho : w'.os = w.os) (ht : w'.tape = w.tape) (hu : OutOk w' w) : StRelAt c st a w' I' hdr F := by
  refine ⟨fun b hb => hI b (h.hI0 b hb), hIb, fun b hb => ?_, fun b hb h0 => ?_, Nat.le_trans h.size hsz, ho.trans h.os, ht.trans h.tape, hu.trans h.out,
    h.df, h.n, fun t => ?_, h.hone, fun nm x hx => ?_, h.nd, h.dj, fun nm hx b hb hb' => ?_, h.oo, h.pin⟩
  · rcases hI' b hb with h1 | h1 | h1
    · exact h.hInew b h1
    · exact .inr (.inl (Nat.le_trans h.size h1))
    · rcases hXo b h1 with h2 | h2
      · exact .inr (.inr h2)
      · exact .inr (.inl h2)
  · rw [hw b (by have := h.size; omega) (fun hX => by rcases hXo b hX with h1 | h1; exact h0 h1; omega)]; exact h.fr b hb h0
  · exact Rep.frame hI (fun b hb => hw b (h.hIlt b hb) (fun hX => hXI b hX hb)) _ _ _ (fun b hb => by cases hb) (h.sl t)
  · obtain ⟨v, hv, hr⟩ := h.ob nm x hx
    exact ⟨v, hv, Rep.frame hI (fun b hb => hw b (h.hIlt b hb) (fun hX => hXI b hX hb)) _ _ _ (fun b hb => hw b (Rep.lt _ _ _ hr b hb) (hXF nm (by rw [hx]; simp) b hb)) hr⟩
  · rcases hI' b hb' with h1 | h1 | h1
    · exact h.oi nm hx b hb h1
    · have := h.F_lt hx hb; omega
    · exact hXF nm hx b hb h1

/-! ### Arguments -/
def rsvCell (o : Nat → Option AV) : AV → AV
  | .ref nm => (o nm).getD (.ref nm)
  | x => x
/-- What a captured variable holds. -/
def rsvB (o : Nat → Option AV) : AV → AV
  | .ref nm => (o nm).getD (.ref nm)
  | .pt nm 0 => match o nm with
    | some (.box l) => .box (l.map (rsvCell o))
    | _ => .pt nm 0
  | x => x
/-- A value with its nodes in their places. -/
def rsv (o : Nat → Option AV) : AV → AV
  | .ref nm => (o nm).getD (.ref nm)
  | .pt nm 0 => match o nm with
    | some (.box l) => .box (l.map (rsvCell o))
    | _ => .pt nm 0
  | .agg l => .agg (l.map (rsvCell o))
  | .tup l => .tup (l.map (rsvCell o))
  | .fno f l => .fno f (l.map (rsvB o))
  | x => x

/-- What all nodes own. -/
def Owned (st : St) (F : Nat → List Nat) (b : Nat) : Prop := ∃ nm, st.o nm ≠ none ∧ b ∈ F nm

theorem rsvCell_rep (h : StRelAt c st a w I hdr F) {x : AV} {v : Value} (hx : Rep w I hdr x [] v) : ∃ B, Rep w I hdr (rsvCell st.o x) B v ∧ ∀ b, b ∈ B → Owned st F b := by
  cases x with
  | ref nm =>
    simp only [rsvCell]
    cases ho : st.o nm with
    | none => exact ⟨[], hx, fun b hb => by cases hb⟩
    | some y =>
      simp only [Rep] at hx
      obtain ⟨u, hu, hr⟩ := h.ob nm y ho
      rw [hx.2] at hu
      cases hu
      exact ⟨F nm, hr, fun b hb => ⟨nm, by rw [ho]; simp, hb⟩⟩
  | _ => exact ⟨[], hx, fun b hb => by cases hb⟩

theorem rsvCells_rep (h : StRelAt c st a w I hdr F) : ∀ {l : List AV} {B : List Nat} {vs : List Value}, RepL w I hdr l B vs → (∀ b, b ∈ B → Owned st F b) → ∃ B', RepL w I hdr (l.map (rsvCell st.o)) B' vs ∧ ∀ b, b ∈ B' → Owned st F b
  | [], B, vs, hl, hB => ⟨B, by simpa using hl, hB⟩
  | x :: xs, B, vs, hl, hB => by
    simp only [RepL] at hl
    obtain ⟨B₁, B₂, v, vs', rfl, rfl, h1, h2⟩ := hl
    have hd : ∃ B', Rep w I hdr (rsvCell st.o x) B' v ∧ ∀ b, b ∈ B' → Owned st F b := by
      by_cases hc : cpy x = true
      · have e := AM.cpy_nil hc h1
        subst e
        exact rsvCell_rep h h1
      · refine ⟨B₁, ?_, fun b hb => hB b (by simp [hb])⟩
        cases x <;> first | exact h1 | (simp [cpy] at hc)
    obtain ⟨C₁, r1, o1⟩ := hd
    obtain ⟨C₂, r2, o2⟩ := rsvCells_rep h h2 (fun b hb => hB b (by simp [hb]))
    refine ⟨C₁ ++ C₂, ?_, fun b hb => ?_⟩
    · simp only [List.map_cons, RepL]
      exact ⟨C₁, C₂, v, vs', rfl, rfl, r1, r2⟩
    · rcases List.mem_append.1 hb with hb | hb
      · exact o1 b hb
      · exact o2 b hb

theorem rsvB_rep (h : StRelAt c st a w I hdr F) {x : AV} {v : Value} (hx : Rep w I hdr x [] v) : ∃ B, Rep w I hdr (rsvB st.o x) B v ∧ ∀ b, b ∈ B → Owned st F b := by
  unfold rsvB
  split
  · rename_i nm
    have := rsvCell_rep h hx
    simpa only [rsvCell] using this
  · rename_i nm
    split
    · rename_i l ho
      have hx0 := hx
      simp only [Rep] at hx
      obtain ⟨_, u, ad, hu, had, hv⟩ := hx
      obtain ⟨u', hu', hr⟩ := h.ob nm _ ho
      rw [hu] at hu'
      cases hu'
      simp only [Rep] at hr
      obtain ⟨b, C, ty, B', rfl, hB, hC, hr⟩ := hr
      simp only [addrOf, Option.some.injEq] at had
      subst had
      obtain ⟨B2, r2, o2⟩ := rsvCells_rep h hr (fun b hb => ⟨nm, by rw [ho]; simp, by rw [hB]; simp [hb]⟩)
      refine ⟨b :: B2, ?_, fun b' hb' => ?_⟩
      · simp only [Rep]
        exact ⟨b, C, ty, B2, by rw [hv, add_zero], rfl, hC, r2⟩
      · rcases List.mem_cons.1 hb' with rfl | hb'
        · exact ⟨nm, by rw [ho]; simp, by rw [hB]; simp⟩
        · exact o2 b' hb'
    · exact ⟨[], hx, fun b hb => by cases hb⟩
  · exact ⟨[], hx, fun b hb => by cases hb⟩

theorem rsvBs_rep (h : StRelAt c st a w I hdr F) : ∀ {l : List AV} {vs : List Value}, RepL w I hdr l [] vs → ∃ B', RepL w I hdr (l.map (rsvB st.o)) B' vs ∧ ∀ b, b ∈ B' → Owned st F b
  | [], vs, hl => ⟨[], by simpa using hl, fun b hb => by cases hb⟩
  | x :: xs, vs, hl => by
    simp only [RepL] at hl
    obtain ⟨B₁, B₂, v, vs', e, rfl, h1, h2⟩ := hl
    obtain ⟨rfl, rfl⟩ : B₁ = [] ∧ B₂ = [] := by simpa using e.symm
    obtain ⟨C₁, r1, o1⟩ := rsvB_rep h h1
    obtain ⟨C₂, r2, o2⟩ := rsvBs_rep h h2
    refine ⟨C₁ ++ C₂, ?_, fun b hb => ?_⟩
    · simp only [List.map_cons, RepL]
      exact ⟨C₁, C₂, v, vs', rfl, rfl, r1, r2⟩
    · rcases List.mem_append.1 hb with hb | hb
      · exact o1 b hb
      · exact o2 b hb

theorem rsv_rep (h : StRelAt c st a w I hdr F) {x : AV} {v : Value} (hx : Rep w I hdr x [] v) : ∃ B, Rep w I hdr (rsv st.o x) B v ∧ ∀ b, b ∈ B → Owned st F b := by
  unfold rsv
  split
  · rename_i nm
    have := rsvCell_rep h hx
    simpa only [rsvCell] using this
  · rename_i nm
    split
    · rename_i l ho
      have hx0 := hx
      simp only [Rep] at hx
      obtain ⟨_, u, ad, hu, had, hv⟩ := hx
      obtain ⟨u', hu', hr⟩ := h.ob nm _ ho
      rw [hu] at hu'
      cases hu'
      simp only [Rep] at hr
      obtain ⟨b, C, ty, B', rfl, hB, hC, hr⟩ := hr
      simp only [addrOf, Option.some.injEq] at had
      subst had
      obtain ⟨B2, r2, o2⟩ := rsvCells_rep h hr (fun b hb => ⟨nm, by rw [ho]; simp, by rw [hB]; simp [hb]⟩)
      refine ⟨b :: B2, ?_, fun b' hb' => ?_⟩
      · simp only [Rep]
        exact ⟨b, C, ty, B2, by rw [hv, add_zero], rfl, hC, r2⟩
      · rcases List.mem_cons.1 hb' with rfl | hb'
        · exact ⟨nm, by rw [ho]; simp, by rw [hB]; simp⟩
        · exact o2 b' hb'
    · exact ⟨[], hx, fun b hb => by cases hb⟩
  · rename_i l
    simp only [Rep] at hx
    obtain ⟨cs, e, hr⟩ := hx
    obtain ⟨B2, r2, o2⟩ := rsvCells_rep h hr (fun b hb => by cases hb)
    refine ⟨B2, ?_, o2⟩
    simp only [Rep]
    exact ⟨cs, e, r2⟩
  · rename_i l
    simp only [Rep] at hx
    obtain ⟨cs, e, hr⟩ := hx
    obtain ⟨B2, r2, o2⟩ := rsvCells_rep h hr (fun b hb => by cases hb)
    refine ⟨B2, ?_, o2⟩
    simp only [Rep]
    exact ⟨cs, e, r2⟩
  · rename_i f l
    simp only [Rep] at hx
    obtain ⟨cs, e, hr⟩ := hx
    obtain ⟨B2, r2, o2⟩ := rsvBs_rep h hr
    refine ⟨B2, ?_, o2⟩
    simp only [Rep]
    exact ⟨cs, e, r2⟩
  · exact ⟨[], hx, fun b hb => by cases hb⟩

/-- An argument that the callee only looks at. -/
def pas (o : Nat → Option AV) (x : AV) : AV := view (rsv o x)

theorem pas_rep (h : StRelAt c st a w I hdr F) {x : AV} {v : Value} (hx : Rep w I hdr x [] v) (hn : nrf (rsv st.o x) = true) : Rep w (fun b => I b ∨ Owned st F b) (fun _ => none) (pas st.o x) [] v := by
  obtain ⟨B, hr, ho⟩ := rsv_rep h hx
  have := Rep.nohdr (fun _ => none) _ _ _ hn hr
  exact Rep.view (fun _ => rfl) _ B v _ (fun b hb => .inl hb) (fun b hb => .inr (ho b hb)) this

theorem passes_rep (h : StRelAt c st a w I hdr F) : ∀ {l : List AV} {vs : List Value}, RepL w I hdr l [] vs → l.all (fun x => nrf (rsv st.o x)) = true → RepL w (fun b => I b ∨ Owned st F b) (fun _ => none) (l.map (pas st.o)) [] vs
  | [], vs, hl, _ => by simpa [RepL] using hl
  | x :: xs, vs, hl, hn => by
    simp only [List.all_cons, Bool.and_eq_true] at hn
    simp only [RepL] at hl
    obtain ⟨B₁, B₂, v, vs', e, rfl, h1, h2⟩ := hl
    obtain ⟨rfl, rfl⟩ : B₁ = [] ∧ B₂ = [] := by simpa using e.symm
    simp only [List.map_cons, RepL]
    exact ⟨[], [], v, vs', rfl, rfl, pas_rep h h1 hn.1, passes_rep h h2 hn.2⟩

/-- An argument without nodes. -/
theorem pas_nrf {x : AV} (o : Nat → Option AV) (hx : nrf x = true) (hv : view x = x) : pas o x = x := by
  unfold pas rsv
  have cells : ∀ l : List AV, nrfL l = true → l.map (rsvCell o) = l := by
    intro l
    induction l with
    | nil => intro _; rfl
    | cons y ys ih =>
      intro hl
      simp only [nrfL, Bool.and_eq_true] at hl
      rw [List.map_cons, ih hl.2]
      cases y <;> first | rfl | (simp [nrf] at hl)
  split
  · simp [nrf] at hx
  · simp [nrf] at hx
  · simp only [nrf] at hx; rw [cells _ hx]; exact hv
  · simp only [nrf] at hx; rw [cells _ hx]; exact hv
  · simp [view] at hv
  · exact hv

mutual
theorem nrf_view_rep {w : World} {I : Nat → Prop} : ∀ (x : AV) (v : Value), Rep w I (fun _ => none) x [] v → Rep w I (fun _ => none) (view x) [] v
  | .junk, v, h => by simpa [view, Rep] using h
  | .val x, v, h => by simpa [view, Rep] using h
  | .agg l, v, h => by
    simp only [view, Rep] at h ⊢
    obtain ⟨cs, e, h⟩ := h
    exact ⟨cs, e, nrf_viewL_rep l _ h⟩
  | .tup l, v, h => by
    simp only [view, Rep] at h ⊢
    obtain ⟨cs, e, h⟩ := h
    exact ⟨cs, e, nrf_viewL_rep l _ h⟩
  | .fno f l, v, h => by
    simp only [view, Rep] at h ⊢
    obtain ⟨cs, e, h⟩ := h
    exact ⟨trivial, cs, e, nrf_viewL_rep l _ h⟩
  | .sl sz nn l, v, h => by simpa [view] using h
  | .ip l, v, h => by simpa [view] using h
  | .fn f caps, v, h => by simpa [view] using h
  | .fb f caps, v, h => by simpa [view] using h
  | .own sz nn l, v, h => by
    simp only [view, Rep] at h ⊢
    rcases h with ⟨rfl, rfl, rfl, _⟩ | ⟨b, n, c, C, ty, B', _, e, _⟩
    · exact ⟨trivial, .inl ⟨rfl, by simp [viewL], rfl⟩⟩
    · cases e
  | .box l, v, h => by
    simp only [Rep] at h
    obtain ⟨b, C, ty, B', _, e, _⟩ := h
    cases e
  | .mp es, v, h => by simp [view, Rep]
  | .opw sz l, v, h => by simp [view, Rep]
  | .ref nm, v, h => by simp [Rep] at h
  | .pt nm off, v, h => by simp [Rep] at h
  | .sfx nm off, v, h => by simp [Rep] at h
  | .pfx nm k, v, h => by simp [Rep] at h
theorem nrf_viewL_rep {w : World} {I : Nat → Prop} : ∀ (l : List AV) (vs : List Value), RepL w I (fun _ => none) l [] vs → RepL w I (fun _ => none) (viewL l) [] vs
  | [], vs, h => by simpa [viewL, RepL] using h
  | x :: xs, vs, h => by
    simp only [viewL, RepL] at h ⊢
    obtain ⟨B₁, B₂, v, vs', e, rfl, h1, h2⟩ := h
    obtain ⟨rfl, rfl⟩ : B₁ = [] ∧ B₂ = [] := by simpa using e.symm
    exact ⟨[], [], v, vs', rfl, rfl, nrf_view_rep x v h1, nrf_viewL_rep xs vs' h2⟩
end

theorem rsv_of_nrf (o : Nat → Option AV) {x : AV} (hx : nrf x = true) : rsv o x = x := by
  have cells : ∀ l : List AV, nrfL l = true → l.map (rsvCell o) = l := by
    intro l
    induction l with
    | nil => intro _; rfl
    | cons y ys ih =>
      intro hl
      simp only [nrfL, Bool.and_eq_true] at hl
      rw [List.map_cons, ih hl.2]
      cases y <;> first | rfl | (simp [nrf] at hl)
  have cellsB : ∀ l : List AV, nrfL l = true → l.map (rsvB o) = l := by
    intro l
    induction l with
    | nil => intro _; rfl
    | cons y ys ih =>
      intro hl
      simp only [nrfL, Bool.and_eq_true] at hl
      rw [List.map_cons, ih hl.2]
      cases y <;> first | rfl | (simp [nrf] at hl)
  unfold rsv
  split
  · simp [nrf] at hx
  · simp [nrf] at hx
  · simp only [nrf] at hx; rw [cells _ hx]
  · simp only [nrf] at hx; rw [cells _ hx]
  · simp only [nrf] at hx; rw [cellsB _ hx]
  · rfl

theorem passes_nrf (h : StRelAt c st a w I hdr F) : ∀ {l : List AV} {vs : List Value}, RepL w I hdr l [] vs → l.all nrf = true → RepL w I (fun _ => none) (l.map (pas st.o)) [] vs
  | [], vs, hl, _ => by simpa [RepL] using hl
  | x :: xs, vs, hl, hn => by
    simp only [List.all_cons, Bool.and_eq_true] at hn
    simp only [RepL] at hl
    obtain ⟨B₁, B₂, v, vs', e, rfl, h1, h2⟩ := hl
    obtain ⟨rfl, rfl⟩ : B₁ = [] ∧ B₂ = [] := by simpa using e.symm
    simp only [List.map_cons, RepL]
    refine ⟨[], [], v, vs', rfl, rfl, ?_, passes_nrf h h2 hn.2⟩
    unfold pas
    rw [rsv_of_nrf st.o hn.1]
    exact nrf_view_rep x v (Rep.nohdr (fun _ => none) _ _ _ hn.1 h1)

/-! ### The call -/
def resEff (dst : Option Nat) (r : AV) : Eff := match dst with
  | some d => { val := (opn d r).1, news := (opn d r).2 }
  | none => { val := .junk }

/-- A call that owns no argument. -/
def callOp (P : Program) (st : St) (dst : Option Nat) (callee : AV) (xs : List AV) (K : Eff → Prop) : Prop := match callee with
  | .fn f caps => xs.all (fun x => nrf (rsv st.o x)) = true ∧ ∃ r, ACalls1 P f (xs.map (pas st.o) ++ caps) r ∧ (xs.all nrf = true ∨ pur r = true) ∧ K (resEff dst r)
  | .fb f first => xs.all (fun x => nrf (rsv st.o x)) = true ∧ ∃ r, ACalls1 P f (first ++ xs.map (pas st.o)) r ∧ (xs.all nrf = true ∨ pur r = true) ∧ K (resEff dst r)
  | _ => False

theorem run_callFunc {f : FuncId} (hf : ∃ fn, P.funcs[f]? = some fn ∧ fn.body.isSome = true ∧ (fn.name == "runtime.NumGoroutine") = false) (args : Array Value) (w : World) : (callFunc f args).run P w = .ok (.enter f args) w := by
  obtain ⟨fn, hf, hb, hn⟩ := hf
  have hb' : ¬ (fn.body = none) := by intro e; rw [e] at hb; cases hb
  have hn' : ¬ (fn.name = "runtime.NumGoroutine") := by simpa using hn
  simp [callFunc, hf, hn', hb']

theorem fnCaps_rep (h : StRelAt c st a w I hdr F) {f : FuncId} {caps : List AV} {v : Value} (hv : Rep w I hdr (.fn f caps) [] v) : ∃ cs : Array Value, v = .func (.func f) #[] cs ∧ RepL w I (fun _ => none) caps [] cs.toList := by
  simp only [Rep] at hv
  obtain ⟨_, cs, e, hr⟩ := hv
  exact ⟨cs, e, hr⟩

/-- A call that owns no argument; nobody will write what it hands back. -/
def callOpF (P : Program) (st : St) (dst : Option Nat) (callee : AV) (xs : List AV) (K : Eff → Prop) : Prop := match callee with
  | .fn f caps => xs.all (fun x => nrf (rsv st.o x)) = true ∧ ∃ r, ACalls1 P f (xs.map (pas st.o) ++ caps) r ∧ (xs.all nrf = true ∨ pur r = true) ∧ K { val := view r }
  | _ => False
theorem s_callG (h : StRelAt c st a w I hdr F) {g : FuncId} {args : List Operand} {ca cb : List AV} {va vb : List Value} {r : AV} {K : Eff → Prop} (hfn : ∃ fn, P.funcs[g]? = some fn ∧ fn.body.isSome = true ∧ (fn.name == "runtime.NumGoroutine") = false)
    (hres : ∀ w, (execOp a.eval o).run P w = .ok (.enter g (va ++ args.map a.eval ++ vb).toArray) w) (hca : RepL w I (fun _ => none) ca [] va) (hcb : RepL w I (fun _ => none) cb [] vb)
    (hn : (args.map (opv st)).all (fun x => nrf (rsv st.o x)) = true) (hc : ACalls1 P g (ca ++ (args.map (opv st)).map (pas st.o) ++ cb) r) (hpur : (args.map (opv st)).all nrf = true ∨ pur r = true) (hK : K (resEff o.dst r)) : Goes P o c st a w K := by
  have hargs := rep_opvs h args
  obtain ⟨_, hcon⟩ := hc
  -- what the callee may look at
  have key : ∀ (J : Nat → Prop), (∀ b, I b → J b) → (∀ b, J b → I b ∨ Owned st F b) → RepL w J (fun _ => none) (ca ++ (args.map (opv st)).map (pas st.o) ++ cb) [] (va ++ args.map a.eval ++ vb) →
      ((∀ b, J b → I b) ∨ pur r = true) → Goes P o c st a w K := by
    intro J hIJ hJI hrep hcase K' Q hQ
    unfold Oper.wp
    rw [hres w]
    simp only [Oper.upon]
    refine (hcon w J [] _ (fun b hb => ?_) (h.gok.mono hIJ) hrep List.nodup_nil (fun b hb => by cases hb)).mono ?_
    · rcases hJI b hb with h1 | ⟨nm, h1, h2⟩
      · exact h.hIlt b h1
      · exact h.F_lt h1 h2
    · rintro e w' ⟨args', r', v, I', B₁, B₂, hr, rfl, hJI', hI'b, hI'new, hrr, _, hnod, hB, hfr, hsz, ho1, ho2, ho3⟩
      subst hr
      refine hQ _ _ _ hK fun hok => ?_
      have hnodB : B₁.Nodup := (List.nodup_append.1 hnod).1
      have hBnew : ∀ b, b ∈ B₁ → w.heap.size ≤ b := fun b hb => by
        rcases (hB b (by simp [hb])).2 with h1 | h1
        · cases h1
        · exact h1
      -- the new set of blocks that nobody writes
      have hstep : ∃ I₂, StRelAt c st a w' I₂ hdr F ∧ Rep w' I₂ (fun _ => none) r' B₁ v ∧ ∀ b, b ∈ B₁ → ¬ I₂ b := by
        rcases hcase with hcase | hcase
        · refine ⟨I', h.step [] (fun b hb => by cases hb) (fun _ _ _ _ hb => by cases hb) (fun b hb => by cases hb) (fun b hb => hJI' b (hIJ b hb)) (fun b hb => ?_) hI'b (fun b hb _ => hfr b hb (by simp)) hsz ho1 ho2 ho3, hrr, fun b hb => (hB b (by simp [hb])).1⟩
          rcases hI'new b hb with h1 | h1 | h1
          · exact .inl (hcase b h1)
          · exact .inr (.inl h1)
          · cases h1
        · refine ⟨I, h.step [] (fun b hb => by cases hb) (fun _ _ _ _ hb => by cases hb) (fun b hb => by cases hb) (fun b hb => hb) (fun b hb => .inl hb) (fun b hb => Nat.lt_of_lt_of_le (h.hIlt b hb) hsz) (fun b hb _ => hfr b hb (by simp)) hsz ho1 ho2 ho3, Rep.pur _ _ _ hcase hrr, fun b hb hI => ?_⟩
          have := h.hIlt b hI
          have := hBnew b hb
          omega
      obtain ⟨I₂, h2, hr2, hBI⟩ := hstep
      cases hd : o.dst with
      | none =>
        simp only [hd, resEff, St.app, St.ws, St.nws, St.put, Act.put]
        exact ⟨I₂, hdr, F, h2⟩
      | some d =>
        simp only [hd, resEff, Eff.ok, St.ws] at hok
        obtain ⟨hdn, hnews⟩ := hok
        obtain ⟨hs, hnodes, htell⟩ := opn_rep r' d B₁ v hr2
        obtain ⟨hdr', F', h3, ht, _⟩ := names h2 hnews hnodes hnodB (fun nm hx b hb hbB => by have := h.F_lt hx hb; have := hBnew b hbB; omega) hBI (fun b hb => by right; have := h.size; have := hBnew b hb; omega)
        simp only [hd, resEff, St.app, St.ws]
        have hn3 : d < (st.nws (opn d r').2).n := by
          have : ∀ (l : List (Nat × AV)) (s : St), (s.nws l).n = s.n := by
            intro l
            induction l with
            | nil => intro s; rfl
            | cons p l ih => intro s; simp only [St.nws, ih]; rfl
          rw [this]; exact hdn d rfl
        exact ⟨I₂, hdr', F', h3.put hn3 (htell hdr' ht)⟩
  rcases hpur with hp | hp
  · exact key I (fun _ hb => hb) (fun b hb => .inl hb) (by simpa using (hca.append (passes_nrf h hargs hp)).append hcb) (.inl fun _ hb => hb)
  · have hca2 := RepL.frame (w' := w) (I' := fun b => I b ∨ Owned st F b) (fun b hb => .inl hb) (fun _ _ => rfl) _ _ _ (fun _ _ => rfl) hca
    have hcb2 := RepL.frame (w' := w) (I' := fun b => I b ∨ Owned st F b) (fun b hb => .inl hb) (fun _ _ => rfl) _ _ _ (fun _ _ => rfl) hcb
    exact key (fun b => I b ∨ Owned st F b) (fun b hb => .inl hb) (fun b hb => hb) (by simpa using (hca2.append (passes_rep h hargs hn)).append hcb2) (.inr hp)
theorem s_call (h : StRelAt c st a w I hdr F) {f : Operand} {args : Array Operand} {ts : Array TypeId} {K : Eff → Prop} (ho : o.op = .call { callee := .value f, args, argTypes := ts })
    (hK : callOp P st o.dst (opv st f) (args.toList.map (opv st)) K) : Goes P o c st a w K := by
  unfold callOp at hK
  have hv := rep_opv h f
  split at hK
  case h_3 => exact hK.elim
  · rename_i g caps hg
    obtain ⟨hn, r, hc, hpur, hK⟩ := hK
    rw [hg] at hv
    obtain ⟨cs, hfv, hcaps⟩ := fnCaps_rep h hv
    refine s_callG h (ca := []) (va := []) (cb := caps) (vb := cs.toList) (args := args.toList) hc.1 ?_ (by simp [RepL]) hcaps hn (by simpa using hc) hpur hK
    intro w
    simp [execOp, ho, resolve, hfv, Deferred.ofValue, invoke, run_callFunc hc.1]
  · rename_i g first hg
    obtain ⟨hn, r, hc, hpur, hK⟩ := hK
    rw [hg] at hv
    simp only [Rep] at hv
    obtain ⟨_, cs, hfv, hfirst⟩ := hv
    refine s_callG h (ca := first) (va := cs.toList) (cb := []) (vb := []) (args := args.toList) hc.1 ?_ hfirst (by simp [RepL]) hn (by simpa using hc) hpur hK
    intro w
    simp [execOp, ho, resolve, hfv, Deferred.ofValue, invoke, run_callFunc hc.1]
theorem s_callF (h : StRelAt c st a w I hdr F) {f : Operand} {args : Array Operand} {ts : Array TypeId} {K : Eff → Prop} (ho : o.op = .call { callee := .value f, args, argTypes := ts })
    (hK : callOpF P st o.dst (opv st f) (args.toList.map (opv st)) K) : Goes P o c st a w K := by
  unfold callOpF at hK
  split at hK
  case h_2 => exact hK.elim
  rename_i g caps hg
  obtain ⟨hn, r, hc, hpur, hK⟩ := hK
  have hv := rep_opv h f
  rw [hg] at hv
  obtain ⟨cs, hfv, hcaps⟩ := fnCaps_rep h hv
  have hargs := rep_opvs h args.toList
  obtain ⟨hfn, hcon⟩ := hc
  have hres : ∀ w, (execOp a.eval o).run P w = .ok (.enter g ((args.toList.map a.eval) ++ cs.toList).toArray) w := by
    intro w
    have : (args.map a.eval) ++ cs = ((args.toList.map a.eval) ++ cs.toList).toArray := by simp
    simp [execOp, ho, resolve, hfv, Deferred.ofValue, invoke, run_callFunc hfn]
  -- what the callee may look at
  have key : ∀ (J : Nat → Prop), (∀ b, I b → J b) → (∀ b, J b → I b ∨ Owned st F b) → RepL w J (fun _ => none) ((args.toList.map (opv st)).map (pas st.o) ++ caps) [] ((args.toList.map a.eval) ++ cs.toList) →
      ((∀ b, J b → I b) ∨ pur r = true) → Goes P o c st a w K := by
    intro J hIJ hJI hrep hcase K' Q hQ
    unfold Oper.wp
    rw [hres w]
    simp only [Oper.upon]
    refine (hcon w J [] _ (fun b hb => ?_) (h.gok.mono hIJ) hrep List.nodup_nil (fun b hb => by cases hb)).mono ?_
    · rcases hJI b hb with h1 | ⟨nm, h1, h2⟩
      · exact h.hIlt b h1
      · exact h.F_lt h1 h2
    · rintro e w' ⟨args', r', v, I', B₁, B₂, hr, rfl, hJI', hI'b, hI'new, hrr, _, hnod, hB, hfr, hsz, ho1, ho2, ho3⟩
      subst hr
      refine hQ _ _ _ hK fun hok => ?_
      have hnodB : B₁.Nodup := (List.nodup_append.1 hnod).1
      have hBnew : ∀ b, b ∈ B₁ → w.heap.size ≤ b := fun b hb => by
        rcases (hB b (by simp [hb])).2 with h1 | h1
        · cases h1
        · exact h1
      -- the new set of blocks that nobody writes
      have hstep : ∃ I₂, StRelAt c st a w' I₂ hdr F ∧ Rep w' I₂ (fun _ => none) r' B₁ v ∧ ∀ b, b ∈ B₁ → ¬ I₂ b := by
        rcases hcase with hcase | hcase
        · refine ⟨I', h.step [] (fun b hb => by cases hb) (fun _ _ _ _ hb => by cases hb) (fun b hb => by cases hb) (fun b hb => hJI' b (hIJ b hb)) (fun b hb => ?_) hI'b (fun b hb _ => hfr b hb (by simp)) hsz ho1 ho2 ho3, hrr, fun b hb => (hB b (by simp [hb])).1⟩
          rcases hI'new b hb with h1 | h1 | h1
          · exact .inl (hcase b h1)
          · exact .inr (.inl h1)
          · cases h1
        · refine ⟨I, h.step [] (fun b hb => by cases hb) (fun _ _ _ _ hb => by cases hb) (fun b hb => by cases hb) (fun b hb => hb) (fun b hb => .inl hb) (fun b hb => Nat.lt_of_lt_of_le (h.hIlt b hb) hsz) (fun b hb _ => hfr b hb (by simp)) hsz ho1 ho2 ho3, Rep.pur _ _ _ hcase hrr, fun b hb hI => ?_⟩
          have := h.hIlt b hI
          have := hBnew b hb
          omega
      obtain ⟨I₂, h2, hr2, hBI⟩ := hstep
      have h3 := h2.freeze B₁ (fun nm hx b hb hbB => by have := h.F_lt hx hb; have := hBnew b hbB; omega) (fun b hb => Rep.lt _ _ _ hr2 b hb) (fun b hb => by right; have := h.size; have := hBnew b hb; omega)
      have hv3 := rep_nohdr_of_none hdr (Rep.view (fun _ => rfl) r' B₁ v (fun b => I₂ b ∨ b ∈ B₁) (fun b hb => .inl hb) (fun b hb => .inr hb) hr2)
      simp only [St.app, St.ws, St.nws]
      cases hd : o.dst with
      | none => exact ⟨_, hdr, F, h3⟩
      | some d => exact ⟨_, hdr, F, h3.put (hok.1 d hd) hv3⟩
  rcases hpur with hp | hp
  · exact key I (fun _ hb => hb) (fun b hb => .inl hb) (by simpa using (passes_nrf h hargs hp).append hcaps) (.inl fun _ hb => hb)
  · have hc2 := RepL.frame (w' := w) (I' := fun b => I b ∨ Owned st F b) (fun b hb => .inl hb) (fun _ _ => rfl) _ _ _ (fun _ _ => rfl) hcaps
    exact key (fun b => I b ∨ Owned st F b) (fun b hb => .inl hb) (fun b hb => hb) (by simpa using (passes_rep h hargs hn).append hc2) (.inr hp)
end
end Go.AM
