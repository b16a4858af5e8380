/-
  The abstract machine: contracts of functions that are handed memory and hand it back, out of their walks.
-/
import Derived.Test.YtnimmbjbinpajaaDoorAmPure
set_option linter.unusedVariables false
set_option linter.unusedSimpArgs false
namespace Go.AM

/-- The names of what is handed over. -/
def pin0 : Nat := 1000000000

/-- The headers by names. -/
def tab : List (Nat × AV) → List Value → Nat → Option Value
  | p :: ps, h :: hs, nm => if nm = p.1 then some h else tab ps hs nm
  | _, _, _ => none

theorem tab_tells : ∀ {ps : List (Nat × AV)} {hs : List Value}, (ps.map (·.1)).Nodup → ps.length = hs.length → Tells (tab ps hs) ps hs
  | [], [], _, _ => trivial
  | p :: ps, h :: hs, hn, he => by
    simp only [List.map_cons, List.nodup_cons] at hn
    have ih := tab_tells (ps := ps) (hs := hs) hn.2 (by simpa using he)
    refine ⟨by simp [tab], ?_⟩
    have key : ∀ (qs : List (Nat × AV)) (us : List Value), (∀ q, q ∈ qs → q.1 ≠ p.1) → Tells (tab ps hs) qs us → Tells (tab (p :: ps) (h :: hs)) qs us := by
      intro qs
      induction qs with
      | nil => intro us _ _; cases us <;> trivial
      | cons q qs ih =>
        intro us hq ht
        cases us with
        | nil => trivial
        | cons u us =>
          simp only [Tells] at ht ⊢
          refine ⟨?_, ih us (fun r hr => hq r (by simp [hr])) ht.2⟩
          simp only [tab]
          rw [if_neg (hq q (by simp))]
          exact ht.1
    exact key ps hs (fun q hq e => hn.1 (e ▸ List.mem_map_of_mem hq)) ih
  | [], _ :: _, _, he => by simp at he
  | _ :: _, [], _, he => by simp at he

theorem tab_mem : ∀ {ps : List (Nat × AV)} {hs : List Value} {nm : Nat} {v : Value}, tab ps hs nm = some v → nm ∈ ps.map (·.1) ∧ v ∈ hs
  | [], _, _, _, h => by simp [tab] at h
  | _ :: _, [], _, _, h => by simp [tab] at h
  | p :: ps, u :: hs, nm, v, h => by
    simp only [tab] at h
    split at h
    · rename_i e; cases h; exact ⟨by simp [e], by simp⟩
    · have := tab_mem h; exact ⟨by simp only [List.map_cons, List.mem_cons]; exact .inr this.1, by simp [this.2]⟩

theorem Nodes.one {w : World} {I : Nat → Prop} : ∀ {ps : List (Nat × AV)} {hs : List Value} {B : List Nat}, Nodes w I ps hs B → ∀ v, v ∈ hs → v.oneCell' = true
  | [], _, _, h, v, hv => by simp only [Nodes] at h; rw [h.1] at hv; cases hv
  | p :: ps, hs, B, h, v, hv => by
    simp only [Nodes] at h
    obtain ⟨u, us, B₁, B₂, rfl, rfl, h1, h2, h3⟩ := h
    rcases List.mem_cons.1 hv with rfl | hv
    · exact h1
    · exact h3.one v hv

theorem tells_of {hdr hdr' : Nat → Option Value} (hh : ∀ nm v, hdr nm = some v → hdr' nm = some v) : ∀ {ps : List (Nat × AV)} {hs : List Value}, Tells hdr ps hs → Tells hdr' ps hs
  | [], hs, _ => by cases hs <;> trivial
  | _ :: _, [], _ => trivial
  | p :: ps, u :: hs, h => by simp only [Tells] at h ⊢; exact ⟨hh _ _ h.1, tells_of hh h.2⟩

/-- How a call begins that is handed nodes. -/
def st0O (args : List AV) (n : Nat) : St := ⟨asS (numbered 0 (opnL pin0 args).1), asO (opnL pin0 args).2, n⟩

/-- What such a walk ends with. -/
def endO (P : Program) (rs : List ResultVar) (args args' : List AV) (r : AV) : Exit → St → Prop
  | .normal, st => resVars P st rs fun l => nrf (col st.o (oneOr l)) = true ∧ nrfL ((opnL pin0 args).1.map (col st.o)) = true ∧ ((oneOr l :: (opnL pin0 args).1).flatMap nm3).Nodup ∧ Le (col st.o (oneOr l)) r ∧ (opnL pin0 args).1.map (col st.o) = args'
  | .ret, st => resVars P st rs fun l => nrf (col st.o (oneOr l)) = true ∧ nrfL ((opnL pin0 args).1.map (col st.o)) = true ∧ ((oneOr l :: (opnL pin0 args).1).flatMap nm3).Nodup ∧ Le (col st.o (oneOr l)) r ∧ (opnL pin0 args).1.map (col st.o) = args'
  | _, _ => False

/-- What a walk ends with that tells what each result is. -/
def endR (P : Program) (rs : List ResultVar) (args : List AV) (R : List AV → AV → Prop) : Exit → St → Prop
  | .normal, st => resVars P st rs fun l => nrf (col st.o (oneOr l)) = true ∧ nrfL ((opnL pin0 args).1.map (col st.o)) = true ∧ ((oneOr l :: (opnL pin0 args).1).flatMap nm3).Nodup ∧ ∃ r, Le (col st.o (oneOr l)) r ∧ R ((opnL pin0 args).1.map (col st.o)) r
  | .ret, st => resVars P st rs fun l => nrf (col st.o (oneOr l)) = true ∧ nrfL ((opnL pin0 args).1.map (col st.o)) = true ∧ ((oneOr l :: (opnL pin0 args).1).flatMap nm3).Nodup ∧ ∃ r, Le (col st.o (oneOr l)) r ∧ R ((opnL pin0 args).1.map (col st.o)) r
  | _, _ => False

/-- Arguments of which nothing is told any more. -/
def jnk : List Bool → List AV → List AV
  | true :: js, _ :: xs => .junk :: jnk js xs
  | false :: js, x :: xs => x :: jnk js xs
  | [], xs => xs
  | _ :: _, [] => []
theorem jnk_rep {w : World} {I : Nat → Prop} {hdr : Nat → Option Value} : ∀ (js : List Bool) (xs : List AV) (vs : List Value), RepL w I hdr xs [] vs → RepL w I hdr (jnk js xs) [] vs
  | [], xs, vs, h => by cases xs <;> exact h
  | true :: js, [], vs, h => h
  | false :: js, [], vs, h => h
  | true :: js, x :: xs, vs, h => by
    simp only [jnk, RepL] at h ⊢
    obtain ⟨B₁, B₂, v, vs', e, e2, h1, h2⟩ := h
    obtain ⟨rfl, rfl⟩ : B₁ = [] ∧ B₂ = [] := by simpa using e.symm
    exact ⟨[], [], v, vs', rfl, e2, by simp [Rep], jnk_rep js xs vs' h2⟩
  | false :: js, x :: xs, vs, h => by
    simp only [jnk, RepL] at h ⊢
    obtain ⟨B₁, B₂, v, vs', e, e2, h1, h2⟩ := h
    obtain ⟨rfl, rfl⟩ : B₁ = [] ∧ B₂ = [] := by simpa using e.symm
    exact ⟨[], [], v, vs', rfl, e2, h1, jnk_rep js xs vs' h2⟩

/-- What such a walk ends with; of some arguments nothing is told any more. -/
def endJ (P : Program) (rs : List ResultVar) (js : List Bool) (args args' : List AV) (r : AV) : Exit → St → Prop
  | .normal, st => resVars P st rs fun l => nrf (col st.o (oneOr l)) = true ∧ nrfL ((jnk js (opnL pin0 args).1).map (col st.o)) = true ∧ ((oneOr l :: (jnk js (opnL pin0 args).1)).flatMap nm3).Nodup ∧ Le (col st.o (oneOr l)) r ∧ (jnk js (opnL pin0 args).1).map (col st.o) = args'
  | .ret, st => resVars P st rs fun l => nrf (col st.o (oneOr l)) = true ∧ nrfL ((jnk js (opnL pin0 args).1).map (col st.o)) = true ∧ ((oneOr l :: (jnk js (opnL pin0 args).1)).flatMap nm3).Nodup ∧ Le (col st.o (oneOr l)) r ∧ (jnk js (opnL pin0 args).1).map (col st.o) = args'
  | _, _ => False

theorem nws_asO : ∀ (l : List (Nat × AV)) (s : Nat → AV) (o : Nat → Option AV) (n : Nat), (l.map (·.1)).Nodup → (St.nws ⟨s, o, n⟩ l) = ⟨s, fun nm => (asO l nm).orElse fun _ => o nm, n⟩
  | [], s, o, n, _ => by simp [St.nws, asO]
  | p :: l, s, o, n, h => by
    simp only [List.map_cons, List.nodup_cons] at h
    simp only [St.nws, St.node]
    rw [nws_asO l s _ n h.2]
    congr 1
    funext nm
    obtain ⟨k, x⟩ := p
    simp only [asO, upd]
    by_cases e : nm = k
    · subst e
      rw [if_pos rfl, if_pos rfl]
      have : asO l nm = none := by
        cases hx : asO l nm with
        | none => rfl
        | some y =>
          exfalso
          have key : ∀ (l : List (Nat × AV)) (y : AV), asO l nm = some y → nm ∈ l.map (·.1) := by
            intro l
            induction l with
            | nil => intro y h; simp [asO] at h
            | cons q l ih =>
              intro y h
              obtain ⟨k', x'⟩ := q
              simp only [asO] at h
              split at h
              · rename_i e; simp [e]
              · simp only [List.map_cons, List.mem_cons]; exact .inr (ih y h)
          exact h.1 (key l y hx)
      rw [this]; rfl
    · rw [if_neg e, if_neg e]

section
variable {P : Program}

theorem st0O_rel {P : Program} {w : World} {I : Nat → Prop} {args : List AV} {B : List Nat} {vs : List Value} {n : Nat} (hI : ∀ b, I b → b < w.heap.size) (hG : GOK P w I) (hr : RepL w I (fun _ => none) args B vs) (hB : B.Nodup) (hBI : ∀ b, b ∈ B → ¬ I b) (hlen : args.length ≤ n)
    (hnd : ((opnL pin0 args).2.map (·.1)).Nodup) (hpin : ∀ p, p ∈ (opnL pin0 args).2 → pin0 ≤ p.1) :
    ∃ (c : Ctx P) (hs : List Value) (hdr : Nat → Option Value) (F : Nat → List Nat), c.w0 = w ∧ c.I0 = I ∧ c.B0 = B ∧ Tells c.pin (opnL pin0 args).2 hs ∧ (∀ hdr', Tells hdr' (opnL pin0 args).2 hs → RepL w I hdr' (opnL pin0 args).1 [] vs) ∧
      StRelAt c (st0O args n) { tmps := vs.toArray ++ Array.replicate (n - vs.toArray.size) undef, defers := [] } w I hdr F := by
  obtain ⟨hs, hnodes, hrep⟩ := opnL_rep args pin0 B vs hr
  have hl := hr.length
  have htell := tab_tells hnd hnodes.length.symm
  let c : Ctx P := ⟨w, I, B, tab (opnL pin0 args).2 hs, fun nm v h => by
    obtain ⟨p, hp, rfl⟩ := List.mem_map.1 (tab_mem h).1
    exact hpin p hp, hG, hBI⟩
  have hrl := hrep _ htell
  have hll := hrl.length
  have h0 : StRelAt c ⟨asS (numbered 0 (opnL pin0 args).1), fun _ => none, n⟩ { tmps := vs.toArray ++ Array.replicate (n - vs.toArray.size) undef, defers := [] } w I (tab (opnL pin0 args).2 hs) (fun _ => []) := by
    refine ⟨fun _ hb => hb, hI, fun b hb => .inl hb, fun b _ _ => rfl, Nat.le_refl _, rfl, rfl, .refl _, rfl, ?_, fun t => ?_, fun nm h hh => ?_, fun nm x hx => ?_, fun nm hx => ?_, fun nm nm' _ hx => ?_, fun nm hx => ?_, fun nm hx => ?_, fun nm v h => h⟩
    · simp; omega
    · simp only [asS_numbered, Nat.zero_le, if_true, Nat.sub_zero]
      by_cases ht : t < (opnL pin0 args).1.length
      · have hg : (opnL pin0 args).1[t]? = some ((opnL pin0 args).1.getD t .junk) := by
          rw [List.getD_eq_getElem?_getD, List.getElem?_eq_getElem ht]; rfl
        obtain ⟨u, B₁, hu, hru, hB⟩ := hrl.get hg
        have e : B₁ = [] := by
          cases B₁ with
          | nil => rfl
          | cons b B => have := hB b (by simp); cases this
        subst e
        have : (vs.toArray ++ Array.replicate (n - vs.toArray.size) undef).getD t undef = u := by
          rw [Array.getD_eq_getD_getElem?, Array.getElem?_append_left (by simp; omega)]
          simp [hu]
        rw [this]
        exact hru
      · rw [List.getD_eq_getElem?_getD, List.getElem?_eq_none (by omega)]
        simp [Rep]
    · exact hnodes.one h (tab_mem hh).2
    · cases hx
    · exact absurd rfl hx
    · exact absurd rfl hx
    · exact absurd rfl hx
    · exact absurd rfl hx
  obtain ⟨F', h1, _⟩ := StRelAt.backs h0 hnd (fun _ _ => rfl) hnodes htell hB (fun nm hx => absurd rfl hx) hBI (fun b hb => .inl hb)
  refine ⟨c, hs, tab (opnL pin0 args).2 hs, F', rfl, rfl, rfl, htell, hrep, ?_⟩
  rw [nws_asO _ _ _ _ hnd] at h1
  have : (St.mk (asS (numbered 0 (opnL pin0 args).1)) (fun nm => (asO (opnL pin0 args).2 nm).orElse fun _ => none) n) = st0O args n := by
    unfold st0O
    congr 1
    funext nm
    cases asO (opnL pin0 args).2 nm <;> rfl
  rw [← this]
  exact h1

/-- **A function's contract, out of its walk**: with what it hands back. -/
theorem acallsO_of {f : FuncId} {fn : Func} {code : Code} {fz : Nat → Bool} {dr : Array Oper → St → (St → Prop) → Prop} {R : Array Oper → Bool} {args args' : List AV} {r : AV}
    (hdr : ∀ (c : Ctx P) (id : Nat) (ops : Array Oper) (K : St → Prop) (st : St) (a : Act) (w : World) (Q : Exit → Act → World → Prop), R ops = true → (∀ st a w, StRel c st a w → K st → Q .normal a w) → StRel c st a w → dr ops st K → (Code.region id ops true).wp P Q a w)
    (hf : P.funcs[f]? = some fn) (hb : fn.body = some code) (hname : (fn.name == "runtime.NumGoroutine") = false) (hlen : args.length ≤ fn.ntmps) (hcb : codeB R code = true)
    (hnd : ((opnL pin0 args).2.map (·.1)).Nodup) (hpin : ∀ p, p ∈ (opnL pin0 args).2 → pin0 ≤ p.1)
    (h : awp P fz dr code (endO P fn.results.toList args args' r) (st0O args fn.ntmps)) : ACalls2 P f args args' r := by
  refine ⟨⟨fn, hf, by rw [hb]; rfl, hname⟩, fun w I B vs hI hG hr hB hBI => ?_⟩
  obtain ⟨c, hs, hdr0, F0, rfl, hcI, hcB, htell, hrep, h0⟩ := st0O_rel (n := fn.ntmps) hI hG hr hB hBI hlen hnd hpin
  subst hcI
  subst hcB
  have hw := awp_sound (P := P) (c := c) (fz := fz) (hdr _) code hcb _ _ _ _ ⟨_, _, _, h0⟩ h
  refine calls_of_wp hf hb (wp_mono hw ?_)
  have fin : ∀ st a w', StRel c st a w' → (resVars P st fn.results.toList fun l => nrf (col st.o (oneOr l)) = true ∧ nrfL ((opnL pin0 args).1.map (col st.o)) = true ∧ ((oneOr l :: (opnL pin0 args).1).flatMap nm3).Nodup ∧ Le (col st.o (oneOr l)) r ∧ (opnL pin0 args).1.map (col st.o) = args') →
      a.defers = [] ∧ ∃ v, (results fn a.tmps).run P w' = .ok v w' ∧ ∃ as r' v' I' B₁ B₂, (as = args' ∧ r' = r) ∧ Ending.returned v = .returned v' ∧
      (∀ b, c.I0 b → I' b) ∧ (∀ b, I' b → b < w'.heap.size) ∧ (∀ b, I' b → c.I0 b ∨ c.w0.heap.size ≤ b ∨ b ∈ c.B0) ∧ Rep w' I' (fun _ => none) r' B₁ v' ∧ RepL w' I' (fun _ => none) as B₂ vs ∧ (B₁ ++ B₂).Nodup ∧
      (∀ b, b ∈ B₁ ++ B₂ → ¬ I' b ∧ (b ∈ c.B0 ∨ c.w0.heap.size ≤ b)) ∧ (∀ b, b < c.w0.heap.size → b ∉ c.B0 → w'.heap[b]? = c.w0.heap[b]?) ∧ c.w0.heap.size ≤ w'.heap.size ∧ w'.os = c.w0.os ∧ w'.tape = c.w0.tape ∧ OutOk w' c.w0 := by
    rintro st a w' ⟨I₂, hdr₂, F, hst⟩ hres
    obtain ⟨l, us, ⟨hn1, hn2, hnod, hle, rfl⟩, hrl, hrun⟩ := resVars_run hst hres
    have hus := hrl.length
    have hval : ∃ v, (results fn a.tmps).run P w' = .ok v w' ∧ Rep w' I₂ hdr₂ (oneOr l) [] v := by
      have h2 : (results fn a.tmps).run P w' = .ok (if h : us.toArray.size = 1 then us.toArray[0] else .tuple us.toArray) w' := by
        rw [results_eq]
        simp only [Array.mapM_eq_mapM_toList, Sem.run_bind, Sem.run_map, hrun, Result.andThen_ok, Sem.run_pure]
      refine ⟨_, h2, ?_⟩
      by_cases h1 : us.length = 1
      · have : l.length = 1 := by omega
        match l, this, us, h1, hrl with
        | [x], _, [u], _, hrl =>
          simp only [RepL] at hrl
          obtain ⟨B₁, B₂, v, vs', e, e2, h1, _⟩ := hrl
          obtain ⟨rfl, rfl⟩ : B₁ = [] ∧ B₂ = [] := by simpa using e.symm
          cases e2
          simpa [oneOr] using h1
      · rw [dif_neg (by simpa using h1)]
        have : oneOr l = .tup l := by
          unfold oneOr
          split
          · simp at hus; omega
          · rfl
        rw [this]
        simp only [Rep]
        exact ⟨_, rfl, by simpa using hrl⟩
    obtain ⟨v, hv, hrv⟩ := hval
    refine ⟨hst.df, v, hv, ?_⟩
    -- what was handed over, under the same headers
    have hargs : RepL w' I₂ hdr₂ (opnL pin0 args).1 [] vs := by
      have h1 := hrep hdr₂ (tells_of (hst.pin) htell)
      exact RepL.frame (fun b hb => hst.hI0 b hb) (fun b hb => hst.fr b (hI b hb) (fun hB' => hBI b hB' hb)) _ _ _ (fun b hb => by cases hb) h1
    have hall : RepL w' I₂ hdr₂ (oneOr l :: (opnL pin0 args).1) [] (v :: vs) := by
      simp only [RepL]
      exact ⟨[], [], v, vs, rfl, rfl, hrv, hargs⟩
    obtain ⟨B, hr1, hd1, hk1⟩ := cols_list hst (cols3 hst) hall hnod
    simp only [List.map_cons, RepL] at hr1
    obtain ⟨B₁, B₂, v', vs', rfl, e', r1, r2⟩ := hr1
    simp only [List.cons.injEq] at e'
    obtain ⟨rfl, rfl⟩ := e'
    obtain ⟨B₃, hr2, hs2⟩ := hle.rep (Rep.nohdr (fun _ => none) _ _ _ hn1 r1)
    have hsub : (B₃ ++ B₂).Sublist (B₁ ++ B₂) := hs2.append (List.Sublist.refl _)
    refine ⟨_, r, v, I₂, B₃, B₂, ⟨rfl, rfl⟩, rfl, hst.hI0, hst.hIlt, hst.hInew, hr2, RepL.nohdr (fun _ => none) _ _ _ hn2 r2, hsub.nodup hd1, fun b hb => ?_, hst.fr, hst.size, hst.os, hst.tape, hst.out⟩
    obtain ⟨nm, _, ho, hF⟩ := hk1 b (hsub.subset hb)
    exact ⟨hst.oi nm ho b hF, hst.oo nm ho b hF⟩
  rintro e a w' ⟨st, hq, hst⟩
  cases e with
  | normal => exact fin st a w' hst hq
  | ret => exact fin st a w' hst hq
  | _ => exact hq.elim
/-- **A function's contract, out of its walk**: with what each result is. -/
theorem acallsR_of {f : FuncId} {fn : Func} {code : Code} {fz : Nat → Bool} {dr : Array Oper → St → (St → Prop) → Prop} {R : Array Oper → Bool} {args : List AV} {Rr : List AV → AV → Prop}
    (hdr : ∀ (c : Ctx P) (id : Nat) (ops : Array Oper) (K : St → Prop) (st : St) (a : Act) (w : World) (Q : Exit → Act → World → Prop), R ops = true → (∀ st a w, StRel c st a w → K st → Q .normal a w) → StRel c st a w → dr ops st K → (Code.region id ops true).wp P Q a w)
    (hf : P.funcs[f]? = some fn) (hb : fn.body = some code) (hname : (fn.name == "runtime.NumGoroutine") = false) (hlen : args.length ≤ fn.ntmps) (hcb : codeB R code = true)
    (hnd : ((opnL pin0 args).2.map (·.1)).Nodup) (hpin : ∀ p, p ∈ (opnL pin0 args).2 → pin0 ≤ p.1)
    (h : awp P fz dr code (endR P fn.results.toList args Rr) (st0O args fn.ntmps)) : ACalls P f args Rr := by
  refine ⟨⟨fn, hf, by rw [hb]; rfl, hname⟩, fun w I B vs hI hG hr hB hBI => ?_⟩
  obtain ⟨c, hs, hdr0, F0, rfl, hcI, hcB, htell, hrep, h0⟩ := st0O_rel (n := fn.ntmps) hI hG hr hB hBI hlen hnd hpin
  subst hcI
  subst hcB
  have hw := awp_sound (P := P) (c := c) (fz := fz) (hdr _) code hcb _ _ _ _ ⟨_, _, _, h0⟩ h
  refine calls_of_wp hf hb (wp_mono hw ?_)
  have fin : ∀ st a w', StRel c st a w' → (resVars P st fn.results.toList fun l => nrf (col st.o (oneOr l)) = true ∧ nrfL ((opnL pin0 args).1.map (col st.o)) = true ∧ ((oneOr l :: (opnL pin0 args).1).flatMap nm3).Nodup ∧ ∃ r, Le (col st.o (oneOr l)) r ∧ Rr ((opnL pin0 args).1.map (col st.o)) r) →
      a.defers = [] ∧ ∃ v, (results fn a.tmps).run P w' = .ok v w' ∧ ∃ as r' v' I' B₁ B₂, Rr as r' ∧ Ending.returned v = .returned v' ∧
      (∀ b, c.I0 b → I' b) ∧ (∀ b, I' b → b < w'.heap.size) ∧ (∀ b, I' b → c.I0 b ∨ c.w0.heap.size ≤ b ∨ b ∈ c.B0) ∧ Rep w' I' (fun _ => none) r' B₁ v' ∧ RepL w' I' (fun _ => none) as B₂ vs ∧ (B₁ ++ B₂).Nodup ∧
      (∀ b, b ∈ B₁ ++ B₂ → ¬ I' b ∧ (b ∈ c.B0 ∨ c.w0.heap.size ≤ b)) ∧ (∀ b, b < c.w0.heap.size → b ∉ c.B0 → w'.heap[b]? = c.w0.heap[b]?) ∧ c.w0.heap.size ≤ w'.heap.size ∧ w'.os = c.w0.os ∧ w'.tape = c.w0.tape ∧ OutOk w' c.w0 := by
    rintro st a w' ⟨I₂, hdr₂, F, hst⟩ hres
    obtain ⟨l, us, ⟨hn1, hn2, hnod, r, hle, hRr⟩, hrl, hrun⟩ := resVars_run hst hres
    have hus := hrl.length
    have hval : ∃ v, (results fn a.tmps).run P w' = .ok v w' ∧ Rep w' I₂ hdr₂ (oneOr l) [] v := by
      have h2 : (results fn a.tmps).run P w' = .ok (if h : us.toArray.size = 1 then us.toArray[0] else .tuple us.toArray) w' := by
        rw [results_eq]
        simp only [Array.mapM_eq_mapM_toList, Sem.run_bind, Sem.run_map, hrun, Result.andThen_ok, Sem.run_pure]
      refine ⟨_, h2, ?_⟩
      by_cases h1 : us.length = 1
      · have : l.length = 1 := by omega
        match l, this, us, h1, hrl with
        | [x], _, [u], _, hrl =>
          simp only [RepL] at hrl
          obtain ⟨B₁, B₂, v, vs', e, e2, h1, _⟩ := hrl
          obtain ⟨rfl, rfl⟩ : B₁ = [] ∧ B₂ = [] := by simpa using e.symm
          cases e2
          simpa [oneOr] using h1
      · rw [dif_neg (by simpa using h1)]
        have : oneOr l = .tup l := by
          unfold oneOr
          split
          · simp at hus; omega
          · rfl
        rw [this]
        simp only [Rep]
        exact ⟨_, rfl, by simpa using hrl⟩
    obtain ⟨v, hv, hrv⟩ := hval
    refine ⟨hst.df, v, hv, ?_⟩
    -- what was handed over, under the same headers
    have hargs : RepL w' I₂ hdr₂ (opnL pin0 args).1 [] vs := by
      have h1 := hrep hdr₂ (tells_of (hst.pin) htell)
      exact RepL.frame (fun b hb => hst.hI0 b hb) (fun b hb => hst.fr b (hI b hb) (fun hB' => hBI b hB' hb)) _ _ _ (fun b hb => by cases hb) h1
    have hall : RepL w' I₂ hdr₂ (oneOr l :: (opnL pin0 args).1) [] (v :: vs) := by
      simp only [RepL]
      exact ⟨[], [], v, vs, rfl, rfl, hrv, hargs⟩
    obtain ⟨B, hr1, hd1, hk1⟩ := cols_list hst (cols3 hst) hall hnod
    simp only [List.map_cons, RepL] at hr1
    obtain ⟨B₁, B₂, v', vs', rfl, e', r1, r2⟩ := hr1
    simp only [List.cons.injEq] at e'
    obtain ⟨rfl, rfl⟩ := e'
    obtain ⟨B₃, hr2, hs2⟩ := hle.rep (Rep.nohdr (fun _ => none) _ _ _ hn1 r1)
    have hsub : (B₃ ++ B₂).Sublist (B₁ ++ B₂) := hs2.append (List.Sublist.refl _)
    refine ⟨_, r, v, I₂, B₃, B₂, hRr, rfl, hst.hI0, hst.hIlt, hst.hInew, hr2, RepL.nohdr (fun _ => none) _ _ _ hn2 r2, hsub.nodup hd1, fun b hb => ?_, hst.fr, hst.size, hst.os, hst.tape, hst.out⟩
    obtain ⟨nm, _, ho, hF⟩ := hk1 b (hsub.subset hb)
    exact ⟨hst.oi nm ho b hF, hst.oo nm ho b hF⟩
  rintro e a w' ⟨st, hq, hst⟩
  cases e with
  | normal => exact fin st a w' hst hq
  | ret => exact fin st a w' hst hq
  | _ => exact hq.elim
/-- **A function's contract, out of its walk**: with what it hands back; some arguments may go into the result. -/
theorem acallsJ_of {f : FuncId} {fn : Func} {code : Code} {fz : Nat → Bool} {dr : Array Oper → St → (St → Prop) → Prop} {R : Array Oper → Bool} (js : List Bool) {args args' : List AV} {r : AV}
    (hdr : ∀ (c : Ctx P) (id : Nat) (ops : Array Oper) (K : St → Prop) (st : St) (a : Act) (w : World) (Q : Exit → Act → World → Prop), R ops = true → (∀ st a w, StRel c st a w → K st → Q .normal a w) → StRel c st a w → dr ops st K → (Code.region id ops true).wp P Q a w)
    (hf : P.funcs[f]? = some fn) (hb : fn.body = some code) (hname : (fn.name == "runtime.NumGoroutine") = false) (hlen : args.length ≤ fn.ntmps) (hcb : codeB R code = true)
    (hnd : ((opnL pin0 args).2.map (·.1)).Nodup) (hpin : ∀ p, p ∈ (opnL pin0 args).2 → pin0 ≤ p.1)
    (h : awp P fz dr code (endJ P fn.results.toList js args args' r) (st0O args fn.ntmps)) : ACalls2 P f args args' r := by
  refine ⟨⟨fn, hf, by rw [hb]; rfl, hname⟩, fun w I B vs hI hG hr hB hBI => ?_⟩
  obtain ⟨c, hs, hdr0, F0, rfl, hcI, hcB, htell, hrep, h0⟩ := st0O_rel (n := fn.ntmps) hI hG hr hB hBI hlen hnd hpin
  subst hcI
  subst hcB
  have hw := awp_sound (P := P) (c := c) (fz := fz) (hdr _) code hcb _ _ _ _ ⟨_, _, _, h0⟩ h
  refine calls_of_wp hf hb (wp_mono hw ?_)
  have fin : ∀ st a w', StRel c st a w' → (resVars P st fn.results.toList fun l => nrf (col st.o (oneOr l)) = true ∧ nrfL ((jnk js (opnL pin0 args).1).map (col st.o)) = true ∧ ((oneOr l :: jnk js (opnL pin0 args).1).flatMap nm3).Nodup ∧ Le (col st.o (oneOr l)) r ∧ (jnk js (opnL pin0 args).1).map (col st.o) = args') →
      a.defers = [] ∧ ∃ v, (results fn a.tmps).run P w' = .ok v w' ∧ ∃ as r' v' I' B₁ B₂, (as = args' ∧ r' = r) ∧ Ending.returned v = .returned v' ∧
      (∀ b, c.I0 b → I' b) ∧ (∀ b, I' b → b < w'.heap.size) ∧ (∀ b, I' b → c.I0 b ∨ c.w0.heap.size ≤ b ∨ b ∈ c.B0) ∧ Rep w' I' (fun _ => none) r' B₁ v' ∧ RepL w' I' (fun _ => none) as B₂ vs ∧ (B₁ ++ B₂).Nodup ∧
      (∀ b, b ∈ B₁ ++ B₂ → ¬ I' b ∧ (b ∈ c.B0 ∨ c.w0.heap.size ≤ b)) ∧ (∀ b, b < c.w0.heap.size → b ∉ c.B0 → w'.heap[b]? = c.w0.heap[b]?) ∧ c.w0.heap.size ≤ w'.heap.size ∧ w'.os = c.w0.os ∧ w'.tape = c.w0.tape ∧ OutOk w' c.w0 := by
    rintro st a w' ⟨I₂, hdr₂, F, hst⟩ hres
    obtain ⟨l, us, ⟨hn1, hn2, hnod, hle, rfl⟩, hrl, hrun⟩ := resVars_run hst hres
    have hus := hrl.length
    have hval : ∃ v, (results fn a.tmps).run P w' = .ok v w' ∧ Rep w' I₂ hdr₂ (oneOr l) [] v := by
      have h2 : (results fn a.tmps).run P w' = .ok (if h : us.toArray.size = 1 then us.toArray[0] else .tuple us.toArray) w' := by
        rw [results_eq]
        simp only [Array.mapM_eq_mapM_toList, Sem.run_bind, Sem.run_map, hrun, Result.andThen_ok, Sem.run_pure]
      refine ⟨_, h2, ?_⟩
      by_cases h1 : us.length = 1
      · have : l.length = 1 := by omega
        match l, this, us, h1, hrl with
        | [x], _, [u], _, hrl =>
          simp only [RepL] at hrl
          obtain ⟨B₁, B₂, v, vs', e, e2, h1, _⟩ := hrl
          obtain ⟨rfl, rfl⟩ : B₁ = [] ∧ B₂ = [] := by simpa using e.symm
          cases e2
          simpa [oneOr] using h1
      · rw [dif_neg (by simpa using h1)]
        have : oneOr l = .tup l := by
          unfold oneOr
          split
          · simp at hus; omega
          · rfl
        rw [this]
        simp only [Rep]
        exact ⟨_, rfl, by simpa using hrl⟩
    obtain ⟨v, hv, hrv⟩ := hval
    refine ⟨hst.df, v, hv, ?_⟩
    -- what was handed over, under the same headers
    have hargs : RepL w' I₂ hdr₂ (jnk js (opnL pin0 args).1) [] vs := by
      refine jnk_rep js _ _ ?_
      have h1 := hrep hdr₂ (tells_of (hst.pin) htell)
      exact RepL.frame (fun b hb => hst.hI0 b hb) (fun b hb => hst.fr b (hI b hb) (fun hB' => hBI b hB' hb)) _ _ _ (fun b hb => by cases hb) h1
    have hall : RepL w' I₂ hdr₂ (oneOr l :: jnk js (opnL pin0 args).1) [] (v :: vs) := by
      simp only [RepL]
      exact ⟨[], [], v, vs, rfl, rfl, hrv, hargs⟩
    obtain ⟨B, hr1, hd1, hk1⟩ := cols_list hst (cols3 hst) hall hnod
    simp only [List.map_cons, RepL] at hr1
    obtain ⟨B₁, B₂, v', vs', rfl, e', r1, r2⟩ := hr1
    simp only [List.cons.injEq] at e'
    obtain ⟨rfl, rfl⟩ := e'
    obtain ⟨B₃, hr2, hs2⟩ := hle.rep (Rep.nohdr (fun _ => none) _ _ _ hn1 r1)
    have hsub : (B₃ ++ B₂).Sublist (B₁ ++ B₂) := hs2.append (List.Sublist.refl _)
    refine ⟨_, r, v, I₂, B₃, B₂, ⟨rfl, rfl⟩, rfl, hst.hI0, hst.hIlt, hst.hInew, hr2, RepL.nohdr (fun _ => none) _ _ _ hn2 r2, hsub.nodup hd1, fun b hb => ?_, hst.fr, hst.size, hst.os, hst.tape, hst.out⟩
    obtain ⟨nm, _, ho, hF⟩ := hk1 b (hsub.subset hb)
    exact ⟨hst.oi nm ho b hF, hst.oo nm ho b hF⟩
  rintro e a w' ⟨st, hq, hst⟩
  cases e with
  | normal => exact fin st a w' hst hq
  | ret => exact fin st a w' hst hq
  | _ => exact hq.elim
end
end Go.AM
