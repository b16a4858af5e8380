/-
  The abstract machine: code, and that a function's contract follows from its walk.
-/
import Derived.Test.YtnimmbjbinpajaaDoorAmOwn
set_option linter.unusedVariables false
set_option linter.unusedSimpArgs false
namespace Go.AM

def opA (P : Program) (fz : Nat → Bool) (o : Oper) (st : St) (k : Eff → Prop) : Prop :=
  match o.op with
  | .call { callee := .value f, args, argTypes := _ } => bif fz (o.dst.getD 0 + 7000) then callRel P st o.dst (opv st f) (args.toList.map (opv st)) k else bif fz (o.dst.getD 0 + 2000) then callOwn P st o.dst (opv st f) (args.toList.map (opv st)) k else bif fz (o.dst.getD 0 + 3000) then callOpF P st o.dst (opv st f) (args.toList.map (opv st)) k else callOp P st o.dst (opv st f) (args.toList.map (opv st)) k
  | _ => aop P fz o st k

/-- A guarded operation: done, or skipped. -/
def gdA (ops : Array Oper) (o : Oper) (st : St) (yes no : St → Prop) : Prop := match o.guard with
  | none => yes st
  | some (j, b) => match (ops[j]?).bind (·.dst) with
    | some g => match st.s g with
      | .val (.bool c) => (c = b → yes (st.put (some g) (.val (.bool b)))) ∧ (c = !b → no (st.put (some g) (.val (.bool !b))))
      | .val (.tuple _) => no st
      | _ => False
    | none => False

def opsA (P : Program) (fz : Nat → Bool) (all : Array Oper) : List Oper → St → (St → Prop) → Prop
  | [], st, K => K st
  | o :: rest, st, K => gdA all o st (fun st => opA P fz o st fun e => e.ok st o.dst ∧ opsA P fz all rest (st.app o.dst e) K)
      (fun st => (∀ d, o.dst = some d → d < st.n) ∧ opsA P fz all rest (st.put o.dst (.val undef)) K)

/-- The first state says no less than the second. -/
def Weak (st st' : St) : Prop := ∀ {P : Program} (c : Ctx P) a w, StRel c st a w → StRel c st' a w

def thn (next : St → Prop) (Q : Exit → St → Prop) : Exit → St → Prop
  | .normal, st => next st
  | e, st => Q e st

def inBlk (id : Nat) (Q : Exit → St → Prop) : Exit → St → Prop
  | .exit id', st => if id' = id then Q .normal st else Q (.exit id') st
  | e, st => Q e st

def condA (st : St) (c : Operand) (yes no : St → Prop) : Prop := match c with
  | .tmp t => match st.s t with
    | .val (.bool b) => (b = true → yes (st.put (some t) (.val (.bool true)))) ∧ (b = false → no (st.put (some t) (.val (.bool false))))
    | _ => False
  | .const (.bool b) => (b = true → yes st) ∧ (b = false → no st)
  | _ => False

def firstDst : List Oper → Nat
  | o :: _ => o.dst.getD 0
  | [] => 0
/-- The state told weaker, then what follows. -/
def WkK (K : St → Prop) (st : St) : Prop := ∃ st', Weak st st' ∧ K st'
/-- What follows a region; where `fz` holds at the first slot plus 6000: the state may be told weaker there. -/
def RK (fz : Nat → Bool) (ops : List Oper) (K : St → Prop) (st : St) : Prop := bif fz (firstDst ops + 6000) then WkK K st else K st


def awp (P : Program) (fz : Nat → Bool) (dr : Array Oper → St → (St → Prop) → Prop) : Code → (Exit → St → Prop) → St → Prop
  | .skip, Q, st => Q .normal st
  | .region _ ops d, Q, st => match d with
    | false => opsA P fz ops ops.toList st (RK fz ops.toList (Q .normal))
    | true => dr ops st (Q .normal)
  | .seq x y, Q, st => awp P fz dr x (thn (awp P fz dr y Q) Q) st
  | .cond c x y, Q, st => condA st c (awp P fz dr x Q) (awp P fz dr y Q)
  | .block id c, Q, st => awp P fz dr c (inBlk id Q) st
  | .loop body, Q, st => ∃ (Inv : Nat → St → Prop), (∃ n st₀, Weak st st₀ ∧ Inv n st₀) ∧
      ∀ n st₁, Inv n st₁ → awp P fz dr body (thn (fun st' => ∃ m st'', Weak st' st'' ∧ m < n ∧ Inv m st'') Q) st₁
  | .exit id, Q, st => Q (.exit id) st
  | .ret, Q, st => Q .ret st
  | _, _, _ => False

def lift {P : Program} (c : Ctx P) (Q : Exit → St → Prop) : Exit → Act → World → Prop := fun e a w => ∃ st, Q e st ∧ StRel c st a w

section
variable {P : Program} {c : Ctx P} {a : Act} {w : World} {fz : Nat → Bool}

theorem opA_sound {o : Oper} {st : St} (h : StRel c st a w) {K : Eff → Prop} (hK : opA P fz o st K) : Goes P o c st a w K := by
  obtain ⟨I, hdr, F, h⟩ := h
  unfold opA at hK
  split at hK
  · rename_i ho
    cases hx : fz (o.dst.getD 0 + 7000) with
    | true => rw [hx] at hK; exact s_callRel h ho hK
    | false =>
      rw [hx] at hK
      cases hz : fz (o.dst.getD 0 + 2000) with
      | true => rw [hz] at hK; exact s_callOwn h ho hK
      | false =>
        rw [hz] at hK
        cases hy : fz (o.dst.getD 0 + 3000) with
        | true => rw [hy] at hK; exact s_callF h ho hK
        | false => rw [hy] at hK; exact s_call h ho hK
  · exact aop_sound h hK

theorem StRel.put_known {st : St} (h : StRel c st a w) {g : Nat} {x y : AV} (hx : st.s g = x) (hy : ∀ I hdr v, Rep (w := w) I hdr x [] v → Rep w I hdr y [] v) : StRel c (st.put (some g) y) a w := by
  obtain ⟨I, hdr, F, h⟩ := h
  refine ⟨I, hdr, F, h.hI0, h.hIlt, h.hInew, h.fr, h.size, h.os, h.tape, h.out, h.df, h.n, fun t => ?_, h.hone, h.ob, h.nd, h.dj, h.oi, h.oo, h.pin⟩
  simp only [St.put, upd]
  split
  · rename_i e
    subst e
    have := h.sl t
    rw [hx] at this
    exact hy I hdr _ this
  · exact h.sl t

/-- A known Bool under its other name. -/
theorem StRel.put_bool {st : St} (h : StRel c st a w) {g : Nat} {x b : Bool} (hx : st.s g = .val (.bool x)) (e : x = b) : StRel c (st.put (some g) (.val (.bool b))) a w := by
  subst e
  exact h.put_known hx fun _ _ _ h => h

theorem bool_at {st : St} (h : StRel c st a w) {g : Nat} {x : Bool} (hx : st.s g = .val (.bool x)) : a.tmps.getD g undef = .bool x := by
  obtain ⟨I, hdr, F, h⟩ := h
  have := h.sl g
  rw [hx] at this
  exact rep_val this

theorem tuple_at {st : St} (h : StRel c st a w) {g : Nat} {x : Array Value} (hx : st.s g = .val (.tuple x)) : a.tmps.getD g undef = .tuple x := by
  obtain ⟨I, hdr, F, h⟩ := h
  have := h.sl g
  rw [hx] at this
  exact rep_val this

theorem yielded_not {ops : Array Oper} {j g : Nat} {x : Array Value} (hj : (ops[j]?).bind (·.dst) = some g) (hg : a.tmps.getD g undef = .tuple x) : yielded ops a.tmps j = none := by
  unfold yielded
  rw [hj]
  simp only [Option.bind_some]
  rw [Array.getD_eq_getD_getElem?] at hg
  cases he : a.tmps[g]? with
  | none => rfl
  | some v => rw [he] at hg; simp only [Option.getD_some] at hg; rw [hg]

theorem yielded_at {ops : Array Oper} {j g : Nat} {x : Bool} (hj : (ops[j]?).bind (·.dst) = some g) (hg : a.tmps.getD g undef = .bool x) : yielded ops a.tmps j = some x := by
  unfold yielded
  rw [hj]
  simp only [Option.bind_some]
  rw [Array.getD_eq_getD_getElem?] at hg
  cases he : a.tmps[g]? with
  | none => rw [he] at hg; cases hg
  | some v => rw [he] at hg; simp only [Option.getD_some] at hg; rw [hg]

theorem StRel.put_undef {st : St} (h : StRel c st a w) {dst : Option Nat} (hd : ∀ d, dst = some d → d < st.n) : StRel c (st.put dst (.val undef)) (a.put dst undef) w := by
  obtain ⟨I, hdr, F, h⟩ := h
  cases dst with
  | none => exact ⟨I, hdr, F, h⟩
  | some d => exact ⟨I, hdr, F, h.put (hd d rfl) (by simp [Rep])⟩

/-- One operation, its guard looked at. -/
theorem gdA_sound {all : Array Oper} {o : Oper} {i : Nat} (hi : all[i]? = some o) {st : St} (h : StRel c st a w) {yes no : St → Prop} (hg : gdA all o st yes no) {K : Act → World → Prop} {Q : Exit → Act → World → Prop}
    (hy : ∀ st', StRel c st' a w → yes st' → o.wp P a w K Q) (hn : ∀ st', StRel c st' a w → no st' → K (a.put o.dst undef) w) : wpOp P all Q i K a w := by
  unfold wpOp
  rw [hi]
  simp only
  unfold gdA at hg
  split at hg
  · rename_i hgd
    rw [if_pos (by simp [Region.wanted, hgd])]
    exact .inl (hy _ h hg)
  · rename_i j b hgd
    split at hg
    case h_2 => exact hg.elim
    rename_i g hdst
    split at hg
    case h_3 => exact hg.elim
    case h_2 =>
      rename_i cs hx
      have hyl := yielded_not hdst (tuple_at h hx)
      rw [if_neg (by simp [Region.wanted, hgd, hyl])]
      exact hn _ h hg
    rename_i x hx
    have hb := bool_at h hx
    have hyl := yielded_at hdst hb
    by_cases e : x = b
    · rw [if_pos (by simp [Region.wanted, hgd, hyl, e])]
      exact .inl (hy _ (h.put_bool hx e) (hg.1 e))
    · rw [if_neg (by simp [Region.wanted, hgd, hyl, e])]
      have e' : x = !b := by cases x <;> cases b <;> simp at e ⊢
      exact hn _ (h.put_bool hx e') (hg.2 e')

theorem opsA_sound {all : Array Oper} {Q : Exit → Act → World → Prop} {K : St → Prop} (hQ : ∀ st a w, StRel c st a w → K st → Q .normal a w) :
    ∀ (rest : List Oper) (k : Nat), (∀ j, rest[j]? = all[k + j]?) → ∀ {st : St} {a : Act} {w : World}, StRel c st a w → opsA P fz all rest st K → wpOps P all Q ((List.range rest.length).map (k + ·)) a w
  | [], k, _, st, a, w, h, hK => by simpa [wpOps] using hQ st a w h hK
  | o :: rest, k, hl, st, a, w, h, hK => by
    have h0 : all[k]? = some o := by simpa using (hl 0).symm
    have hrest : ∀ j, rest[j]? = all[k + 1 + j]? := fun j => by
      have := hl (j + 1)
      simpa [Nat.add_assoc, Nat.add_comm 1 j] using this
    have hlist : (List.range (o :: rest).length).map (k + ·) = k :: (List.range rest.length).map (k + 1 + ·) := by
      simp [List.range_succ_eq_map, List.map_map, Nat.add_assoc, Nat.add_comm 1]
    rw [hlist, wpOps_cons]
    simp only [opsA] at hK
    refine gdA_sound h0 h hK (fun st' h' hy => ?_) (fun st' h' hn => ?_)
    · refine opA_sound h' hy _ _ fun e a' w' he hr => ?_
      exact opsA_sound hQ rest (k + 1) hrest (hr he.1) he.2
    · exact opsA_sound hQ rest (k + 1) hrest (h'.put_undef hn.1) hn.2

theorem opsA_region {id : Nat} {ops : Array Oper} {Q : Exit → St → Prop} {st : St} (h : StRel c st a w) (hK : opsA P fz ops ops.toList st (RK fz ops.toList (Q .normal))) : (Code.region id ops false).wp P (lift c Q) a w := by
  refine wp_region ?_
  have := opsA_sound (P := P) (c := c) (Q := lift c Q) (K := RK fz ops.toList (Q .normal)) (fun st a w h hq => by
    unfold RK at hq
    cases hz : fz (firstDst ops.toList + 6000) with
    | true =>
      rw [hz] at hq
      obtain ⟨st', hw, hk⟩ := hq
      exact ⟨st', hk, hw c a w h⟩
    | false => rw [hz] at hq; exact ⟨st, hq, h⟩) ops.toList 0 (fun j => by simp) h hK
  simpa using this

/-- A loop with a count that goes down. -/
theorem wp_loop_n {P : Program} {Q : Exit → Act → World → Prop} {body : Code} {a : Act} {w : World} (I : Nat → Act → World → Prop) (n : Nat) (h₀ : I n a w)
    (round : ∀ n a w, I n a w → body.wp P (Exit.then (fun a' w' => ∃ m, m < n ∧ I m a' w') Q) a w) : (Code.loop body).wp P Q a w := by
  intro b k cs
  have key : ∀ n a w, I n a w → ∃ e a' w', Q e a' w' ∧ Arrives P (lone (b.at a (.code body :: .inLoop body :: k)) cs w) b k cs e a' w' := by
    intro n
    induction n using Nat.strongRecOn with
    | _ n ih =>
      intro a w hI
      obtain ⟨e, a₁, w₁, hq, harr⟩ := round n a w hI b (.inLoop body :: k) cs
      cases e with
      | normal =>
        obtain ⟨m, hlt, hI₁⟩ := hq
        obtain ⟨e₂, a₂, w₂, hq₂, harr₂⟩ := ih m hlt a₁ w₁ hI₁
        exact ⟨e₂, a₂, w₂, hq₂, .of_steps (Steps.trans harr (.one step_inLoop)) harr₂⟩
      | exit id => exact ⟨_, a₁, w₁, hq, .pass (x := .inLoop body) rfl (fun _ _ => .inl (by simp)) harr⟩
      | goto l => exact ⟨_, a₁, w₁, hq, .pass (x := .inLoop body) rfl (fun _ _ => .inl (by simp)) harr⟩
      | ret => exact ⟨_, a₁, w₁, hq, .pass (x := .inLoop body) rfl (fun _ _ => .inl (by simp)) harr⟩
      | panic ch => exact ⟨_, a₁, w₁, hq, .pass (x := .inLoop body) rfl (fun _ _ => .inl (by simp)) harr⟩
      | outgrown => exact ⟨_, a₁, w₁, hq, .pass (x := .inLoop body) rfl (fun _ _ => .inl (by simp)) harr⟩
  obtain ⟨e, a', w', hq, harr⟩ := key n a w h₀
  exact ⟨e, a', w', hq, .of_steps (.one step_loop) harr⟩

theorem then_lift {next : St → Prop} {Q : Exit → St → Prop} {next' : Act → World → Prop} (hn : ∀ st a w, next st → StRel c st a w → next' a w) : ∀ e a w, lift c (thn next Q) e a w → Exit.then next' (lift c Q) e a w := by
  rintro e a w ⟨st, hq, h⟩
  cases e <;> first | exact hn st a w hq h | exact ⟨st, hq, h⟩

/-- All regions whose order is drawn are of this kind. -/
def codeB (R : Array Oper → Bool) : Code → Bool
  | .region _ ops true => R ops
  | .seq x y => codeB R x && codeB R y
  | .cond _ x y => codeB R x && codeB R y
  | .block _ x => codeB R x
  | .loop x => codeB R x
  | _ => true

theorem awp_sound {dr : Array Oper → St → (St → Prop) → Prop} {R : Array Oper → Bool} (hdr : ∀ (id : Nat) (ops : Array Oper) (K : St → Prop) (st : St) (a : Act) (w : World) (Q : Exit → Act → World → Prop), R ops = true → (∀ st a w, StRel c st a w → K st → Q .normal a w) → StRel c st a w → dr ops st K → (Code.region id ops true).wp P Q a w) :
    ∀ (code : Code), codeB R code = true → ∀ (Q : Exit → St → Prop) (st : St) (a : Act) (w : World), StRel c st a w → awp P fz dr code Q st → code.wp P (lift c Q) a w := by
  intro code
  induction code with
  | skip => intro hc Q st a w h hK; exact wp_skip ⟨st, hK, h⟩
  | region id ops d =>
    intro hc Q st a w h hK
    cases d with
    | false => exact opsA_region h hK
    | true => exact hdr id ops _ st a w _ (by simpa [codeB] using hc) (fun st a w h hk => ⟨st, hk, h⟩) h hK
  | seq x y ihx ihy =>
    intro hc Q st a w h hK
    simp only [codeB, Bool.and_eq_true] at hc
    refine wp_seq (wp_mono (ihx hc.1 _ st a w h hK) (then_lift fun st a w hn h => ihy hc.2 Q st a w h hn))
  | cond cd x y ihx ihy =>
    intro hc Q st a w h hK
    simp only [codeB, Bool.and_eq_true] at hc
    simp only [awp, condA] at hK
    split at hK
    · rename_i t
      split at hK
      case h_2 => exact hK.elim
      rename_i b hb
      have hv := bool_at h hb
      refine wp_cond_split (t := b) (by simpa [Act.eval] using hv) (fun e => ?_) (fun e => ?_)
      · exact ihx hc.1 Q _ a w (h.put_bool hb e) (hK.1 e)
      · exact ihy hc.2 Q _ a w (h.put_bool hb e) (hK.2 e)
    · rename_i b
      refine wp_cond_split (t := b) rfl (fun e => ihx hc.1 Q _ a w h (hK.1 e)) (fun e => ihy hc.2 Q _ a w h (hK.2 e))
    · exact hK.elim
  | block id cd ih =>
    intro hc Q st a w h hK
    simp only [codeB] at hc
    refine wp_block (wp_mono (ih hc _ st a w h hK) ?_)
    rintro e a w ⟨st, hq, h⟩
    cases e with
    | exit id' =>
      simp only [inBlk] at hq
      simp only [Exit.inBlock]
      split at hq
      · rename_i e; rw [if_pos e]; exact ⟨st, hq, h⟩
      · rename_i e; rw [if_neg e]; exact ⟨st, hq, h⟩
    | _ => exact ⟨st, hq, h⟩
  | loop body ih =>
    intro hc Q st a w h hK
    simp only [codeB] at hc
    simp only [awp] at hK
    obtain ⟨Inv, ⟨n, st₀, hw, hI⟩, hround⟩ := hK
    refine wp_loop_n (fun n a w => ∃ st, Inv n st ∧ StRel c st a w) n ⟨st₀, hI, hw c a w h⟩ fun n a w ⟨st₁, hI₁, h₁⟩ => ?_
    refine wp_mono (ih hc _ st₁ a w h₁ (hround n st₁ hI₁)) (then_lift ?_)
    rintro st' a' w' ⟨m, st'', hw', hm, hI''⟩ h'
    exact ⟨m, hm, st'', hI'', hw' c a' w' h'⟩
  | exit id => intro hc Q st a w h hK; exact wp_exit ⟨st, hK, h⟩
  | ret => intro hc Q st a w h hK; exact wp_ret ⟨st, hK, h⟩
  | _ => intro hc Q st a w h hK; exact hK.elim
end

/-! ### Saying less -/
mutual
inductive Le : AV → AV → Prop
  | refl (x : AV) : Le x x
  | junk (x : AV) : Le x .junk
  | nilOwn (sz : Nat) : Le (.val nilSlice) (.own sz false [])
  | nilSl (sz : Nat) : Le (.val nilSlice) (.sl sz false [])
  | ownNn (sz : Nat) (nn : Bool) (l : List AV) : Le (.own sz nn l) (.own sz false l)
  | slNn (sz : Nat) (nn : Bool) (l : List AV) : Le (.sl sz nn l) (.sl sz false l)
  | agg {l l' : List AV} : LeL l l' → Le (.agg l) (.agg l')
  | tup {l l' : List AV} : LeL l l' → Le (.tup l) (.tup l')
inductive LeL : List AV → List AV → Prop
  | nil : LeL [] []
  | cons {x y : AV} {l l' : List AV} : Le x y → LeL l l' → LeL (x :: l) (y :: l')
end

mutual
theorem Le.rep {w : World} {I : Nat → Prop} {hdr : Nat → Option Value} : ∀ {x y : AV}, Le x y → ∀ {B : List Nat} {v : Value}, Rep w I hdr x B v → ∃ B', Rep w I hdr y B' v ∧ B'.Sublist B
  | _, _, .refl x, B, v, h => ⟨B, h, List.Sublist.refl _⟩
  | _, _, .junk x, B, v, h => ⟨[], by simp [Rep], List.nil_sublist _⟩
  | _, _, .nilOwn sz, B, v, h => by simp only [Rep] at h; exact ⟨[], by simp [Rep, h.2], List.nil_sublist _⟩
  | _, _, .nilSl sz, B, v, h => by simp only [Rep] at h; exact ⟨[], by simp [Rep, h.2], List.nil_sublist _⟩
  | _, _, .ownNn sz nn l, B, v, h => by
    refine ⟨B, ?_, List.Sublist.refl _⟩
    simp only [Rep] at h ⊢
    exact h.imp (fun h => ⟨h.1, h.2.1, trivial, h.2.2.2⟩) id
  | _, _, .slNn sz nn l, B, v, h => by
    refine ⟨B, ?_, List.Sublist.refl _⟩
    simp only [Rep] at h ⊢
    exact ⟨h.1, h.2.imp (fun h => ⟨h.1, h.2.1, trivial⟩) id⟩
  | _, _, .agg hl, B, v, h => by
    simp only [Rep] at h
    obtain ⟨cs, e, h⟩ := h
    obtain ⟨B', h', hs⟩ := LeL.rep hl h
    exact ⟨B', by simp only [Rep]; exact ⟨cs, e, h'⟩, hs⟩
  | _, _, .tup hl, B, v, h => by
    simp only [Rep] at h
    obtain ⟨cs, e, h⟩ := h
    obtain ⟨B', h', hs⟩ := LeL.rep hl h
    exact ⟨B', by simp only [Rep]; exact ⟨cs, e, h'⟩, hs⟩
theorem LeL.rep {w : World} {I : Nat → Prop} {hdr : Nat → Option Value} : ∀ {l l' : List AV}, LeL l l' → ∀ {B : List Nat} {vs : List Value}, RepL w I hdr l B vs → ∃ B', RepL w I hdr l' B' vs ∧ B'.Sublist B
  | _, _, .nil, B, vs, h => ⟨B, h, List.Sublist.refl _⟩
  | _, _, .cons h1 h2, B, vs, h => by
    simp only [RepL] at h
    obtain ⟨B₁, B₂, v, vs', rfl, rfl, r1, r2⟩ := h
    obtain ⟨C₁, s1, t1⟩ := Le.rep h1 r1
    obtain ⟨C₂, s2, t2⟩ := LeL.rep h2 r2
    exact ⟨C₁ ++ C₂, by simp only [RepL]; exact ⟨C₁, C₂, v, vs', rfl, rfl, s1, s2⟩, t1.append t2⟩
end

/-! ### A function -/
mutual
/-- It owns nothing. -/
def imm : AV → Bool
  | .own .. | .box _ | .mp _ | .ref _ | .pt .. | .sfx .. | .pfx .. | .opw .. | .fno .. => false
  | .agg l => immL l
  | .tup l => immL l
  | _ => true
def immL : List AV → Bool
  | [] => true
  | x :: xs => imm x && immL xs
end

mutual
theorem imm_nil {w : World} {I : Nat → Prop} {hdr : Nat → Option Value} : ∀ (x : AV) (B : List Nat) (v : Value), imm x = true → Rep w I hdr x B v → B = []
  | .junk, _, _, _, h => by simpa only [Rep] using h
  | .val x, _, _, _, h => by simp only [Rep] at h; exact h.1
  | .agg l, B, v, hn, h => by
    simp only [Rep, imm] at h hn
    obtain ⟨cs, e, h⟩ := h
    exact immL_nil l B _ hn h
  | .tup l, B, v, hn, h => by
    simp only [Rep, imm] at h hn
    obtain ⟨cs, e, h⟩ := h
    exact immL_nil l B _ hn h
  | .sl .., _, _, _, h => by simp only [Rep] at h; exact h.1
  | .ip _, _, _, _, h => by simp only [Rep] at h; exact h.1
  | .fn .., _, _, _, h => by simp only [Rep] at h; exact h.1
  | .fb .., _, _, _, h => by simp only [Rep] at h; exact h.1
  | .fno .., _, _, hn, _ => by simp [imm] at hn
  | .own .., _, _, hn, _ => by simp [imm] at hn
  | .box _, _, _, hn, _ => by simp [imm] at hn
  | .mp _, _, _, hn, _ => by simp [imm] at hn
  | .opw .., _, _, hn, _ => by simp [imm] at hn
  | .ref _, _, _, hn, _ => by simp [imm] at hn
  | .pt .., _, _, hn, _ => by simp [imm] at hn
  | .sfx .., _, _, hn, _ => by simp [imm] at hn
  | .pfx .., _, _, hn, _ => by simp [imm] at hn
theorem immL_nil {w : World} {I : Nat → Prop} {hdr : Nat → Option Value} : ∀ (l : List AV) (B : List Nat) (vs : List Value), immL l = true → RepL w I hdr l B vs → B = []
  | [], _, _, _, h => by simp only [RepL] at h; exact h.1
  | x :: xs, B, vs, hn, h => by
    simp only [RepL, immL, Bool.and_eq_true] at h hn
    obtain ⟨B₁, B₂, v, vs', rfl, e2, h1, h2⟩ := h
    rw [imm_nil x B₁ v hn.1 h1, immL_nil xs B₂ vs' hn.2 h2]; rfl
end

def asS : List (Nat × AV) → Nat → AV
  | [], _ => .junk
  | (k, x) :: l, t => if t = k then x else asS l t
def asO : List (Nat × AV) → Nat → Option AV
  | [], _ => none
  | (k, x) :: l, t => if t = k then some x else asO l t

def numbered : Nat → List AV → List (Nat × AV)
  | _, [] => []
  | i, x :: l => (i, x) :: numbered (i + 1) l

theorem asS_numbered : ∀ (l : List AV) (i t : Nat), asS (numbered i l) t = if i ≤ t then l.getD (t - i) .junk else .junk
  | [], i, t => by simp [numbered, asS]
  | x :: l, i, t => by
    simp only [numbered, asS]
    by_cases h : t = i
    · subst h; simp
    · rw [if_neg h, asS_numbered l (i + 1) t]
      by_cases h2 : i ≤ t
      · rw [if_pos h2, if_pos (by omega)]
        have : t - i = (t - (i + 1)) + 1 := by omega
        rw [this]; rfl
      · rw [if_neg h2, if_neg (by omega)]

/-- How a call begins: its arguments. -/
def st0 (args : List AV) (n : Nat) : St := ⟨asS (numbered 0 args), asO [], n⟩

/-- What a function hands back. -/
def resVar (P : Program) (st : St) : ResultVar → (AV → Prop) → Prop
  | .tmp t, K => K (st.s t)
  | .cell p t, K => loadOp P st t (st.s p) fun e => K e.val

def resVars (P : Program) (st : St) : List ResultVar → (List AV → Prop) → Prop
  | [], K => K []
  | r :: rs, K => resVar P st r fun x => resVars P st rs fun l => K (x :: l)

def oneOr : List AV → AV
  | [x] => x
  | l => .tup l

def col1 (o : Nat → Option AV) : AV → AV
  | .ref nm => (o nm).getD (.ref nm)
  | .pt nm 0 => match o nm with
    | some (.box l) => .box l
    | _ => .pt nm 0
  | x => x
def col2 (o : Nat → Option AV) : AV → AV
  | .agg l => .agg (l.map (col1 o))
  | x => col1 o x
/-- A result with its nodes in their places. -/
def col (o : Nat → Option AV) : AV → AV
  | .tup l => .tup (l.map (col2 o))
  | x => col2 o x
def nm1 : AV → List Nat
  | .ref nm => [nm]
  | .pt nm 0 => [nm]
  | _ => []
def nm2 : AV → List Nat
  | .agg l => l.flatMap nm1
  | x => nm1 x
/-- Its names. -/
def nm3 : AV → List Nat
  | .tup l => l.flatMap nm2
  | x => nm2 x

/-- What a walk ends with is what the contract says. -/
def Ret (st : St) (x r : AV) : Prop := nrf (col st.o x) = true ∧ (((nm3 x).Nodup ∧ Le (col st.o x) r) ∨ Le (view (col st.o x)) r)

def endQ (P : Program) (rs : List ResultVar) (r : AV) : Exit → St → Prop
  | .normal, st => resVars P st rs fun l => Ret st (oneOr l) r
  | .ret, st => resVars P st rs fun l => Ret st (oneOr l) r
  | _, _ => False

section
variable {P : Program} {c : Ctx P} {st : St} {a : Act} {w : World} {I : Nat → Prop} {hdr : Nat → Option Value} {F : Nat → List Nat}

def Cols (st : St) (w : World) (I : Nat → Prop) (hdr : Nat → Option Value) (F : Nat → List Nat) (f : AV → AV) (g : AV → List Nat) : Prop :=
  ∀ x v, Rep w I hdr x [] v → (g x).Nodup → ∃ B, Rep w I hdr (f x) B v ∧ B.Nodup ∧ ∀ b, b ∈ B → ∃ nm, nm ∈ g x ∧ st.o nm ≠ none ∧ b ∈ F nm

theorem cols_list (h : StRelAt c st a w I hdr F) {f : AV → AV} {g : AV → List Nat} (hf : Cols st w I hdr F f g) : ∀ {l : List AV} {vs : List Value}, RepL w I hdr l [] vs → (l.flatMap g).Nodup →
    ∃ B, RepL w I hdr (l.map f) B vs ∧ B.Nodup ∧ ∀ b, b ∈ B → ∃ nm, nm ∈ l.flatMap g ∧ st.o nm ≠ none ∧ b ∈ F nm
  | [], vs, hl, _ => ⟨[], by simpa using hl, List.nodup_nil, fun b hb => by cases hb⟩
  | x :: xs, vs, hl, hn => by
    simp only [RepL] at hl
    obtain ⟨B₁, B₂, v, vs', e, rfl, h1, h2⟩ := hl
    obtain ⟨rfl, rfl⟩ : B₁ = [] ∧ B₂ = [] := by simpa using e.symm
    simp only [List.flatMap_cons] at hn ⊢
    have hn' := List.nodup_append.1 hn
    obtain ⟨C₁, r1, d1, k1⟩ := hf x v h1 hn'.1
    obtain ⟨C₂, r2, d2, k2⟩ := cols_list h hf h2 hn'.2.1
    refine ⟨C₁ ++ C₂, ?_, List.nodup_append.2 ⟨d1, d2, fun b hb b' hb' e => ?_⟩, fun b hb => ?_⟩
    · simp only [List.map_cons, RepL]
      exact ⟨C₁, C₂, v, vs', rfl, rfl, r1, r2⟩
    · subst e
      obtain ⟨nm, m1, o1, f1⟩ := k1 b hb
      obtain ⟨nm', m2, o2, f2⟩ := k2 b hb'
      exact h.dj nm nm' (fun e => hn'.2.2 nm m1 nm' m2 e) o1 o2 b f1 f2
    · rcases List.mem_append.1 hb with hb | hb
      · obtain ⟨nm, m, r⟩ := k1 b hb
        exact ⟨nm, by simp [m], r⟩
      · obtain ⟨nm, m, r⟩ := k2 b hb
        exact ⟨nm, List.mem_append.2 (.inr m), r⟩

theorem box_hdr0 {w : World} {I : Nat → Prop} {hdr' : Nat → Option Value} {l : List AV} {B : List Nat} {u : Value} (h : Rep w I hdr' (.box l) B u) : ∃ b, u = .pointer (some ⟨b, 0, none⟩) := by
  simp only [Rep] at h
  obtain ⟨b, C, ty, B', hv, _⟩ := h
  exact ⟨b, hv⟩
theorem pt_box (h : StRelAt c st a w I hdr F) {nm : Nat} {l : List AV} (ho : st.o nm = some (.box l)) {v : Value} (hx : Rep w I hdr (.pt nm 0) [] v) : Rep w I hdr (.box l) (F nm) v := by
  simp only [Rep] at hx
  obtain ⟨_, u, ad, hu, had, hv⟩ := hx
  obtain ⟨u', hu', hr⟩ := h.ob nm _ ho
  rw [hu] at hu'
  cases hu'
  obtain ⟨b, e⟩ := box_hdr0 hr
  subst e
  simp only [addrOf, Option.some.injEq] at had
  subst had
  have e0 : (⟨b, 0, none⟩ : Addr).add 0 = ⟨b, 0, none⟩ := by rw [Addr.add_lit]
  rw [hv, e0]; exact hr
theorem cols1 (h : StRelAt c st a w I hdr F) : Cols st w I hdr F (col1 st.o) nm1 := by
  intro x v hx hn
  cases x with
  | pt nm off =>
    cases off with
    | succ k => exact ⟨[], hx, List.nodup_nil, fun b hb => by cases hb⟩
    | zero =>
      simp only [col1, nm1]
      split
      · rename_i l ho
        have hne : st.o nm ≠ none := by rw [ho]; simp
        exact ⟨F nm, pt_box h ho hx, h.nd nm hne, fun b hb => ⟨nm, by simp, hne, hb⟩⟩
      · exact ⟨[], hx, List.nodup_nil, fun b hb => by cases hb⟩
  | ref nm =>
    simp only [col1, nm1]
    cases ho : st.o nm with
    | none => exact ⟨[], hx, List.nodup_nil, fun b hb => by cases hb⟩
    | some y =>
      simp only [Rep] at hx
      obtain ⟨u, hu, hr⟩ := h.ob nm y ho
      rw [hx.2] at hu
      cases hu
      have hne : st.o nm ≠ none := by rw [ho]; simp
      exact ⟨F nm, hr, h.nd nm hne, fun b hb => ⟨nm, by simp, hne, hb⟩⟩
  | _ => exact ⟨[], hx, List.nodup_nil, fun b hb => by cases hb⟩

theorem cols2 (h : StRelAt c st a w I hdr F) : Cols st w I hdr F (col2 st.o) nm2 := by
  intro x v hx hn
  cases x with
  | agg l =>
    simp only [col2, nm2] at hn ⊢
    simp only [Rep] at hx
    obtain ⟨cs, e, hr⟩ := hx
    obtain ⟨B, r, d, k⟩ := cols_list h (cols1 h) hr hn
    exact ⟨B, by simp only [Rep]; exact ⟨cs, e, r⟩, d, k⟩
  | _ => exact cols1 h _ v hx hn

theorem cols3 (h : StRelAt c st a w I hdr F) : Cols st w I hdr F (col st.o) nm3 := by
  intro x v hx hn
  cases x with
  | tup l =>
    simp only [col, nm3] at hn ⊢
    simp only [Rep] at hx
    obtain ⟨cs, e, hr⟩ := hx
    obtain ⟨B, r, d, k⟩ := cols_list h (cols2 h) hr hn
    exact ⟨B, by simp only [Rep]; exact ⟨cs, e, r⟩, d, k⟩
  | _ => exact cols2 h _ v hx hn

/-- The same without a look at the names: memory that nobody writes any more. -/
theorem colv_cell (h : StRelAt c st a w I hdr F) {x : AV} {v : Value} (hx : Rep w I hdr x [] v) : ∃ B, Rep w I hdr (col1 st.o x) B v ∧ ∀ b, b ∈ B → Owned st F b := by
  cases x with
  | ref nm => exact rsvCell_rep h hx
  | pt nm off =>
    cases off with
    | succ k => exact ⟨[], hx, fun b hb => by cases hb⟩
    | zero =>
      simp only [col1]
      split
      · rename_i l ho
        exact ⟨F nm, pt_box h ho hx, fun b hb => ⟨nm, by rw [ho]; simp, hb⟩⟩
      · exact ⟨[], hx, fun b hb => by cases hb⟩
  | _ => exact ⟨[], hx, fun b hb => by cases hb⟩

theorem colv_list {f : AV → AV} (hf : ∀ x v, Rep w I hdr x [] v → ∃ B, Rep w I hdr (f x) B v ∧ ∀ b, b ∈ B → Owned st F b) : ∀ {l : List AV} {vs : List Value}, RepL w I hdr l [] vs →
    ∃ B, RepL w I hdr (l.map f) B vs ∧ ∀ b, b ∈ B → Owned st F b
  | [], vs, hl => ⟨[], by simpa using hl, fun b hb => by cases hb⟩
  | x :: xs, vs, hl => by
    simp only [RepL] at hl
    obtain ⟨B₁, B₂, v, vs', e, rfl, h1, h2⟩ := hl
    obtain ⟨rfl, rfl⟩ : B₁ = [] ∧ B₂ = [] := by simpa using e.symm
    obtain ⟨C₁, r1, k1⟩ := hf x v h1
    obtain ⟨C₂, r2, k2⟩ := colv_list hf h2
    refine ⟨C₁ ++ C₂, ?_, fun b hb => ?_⟩
    · simp only [List.map_cons, RepL]
      exact ⟨C₁, C₂, v, vs', rfl, rfl, r1, r2⟩
    · rcases List.mem_append.1 hb with hb | hb
      · exact k1 b hb
      · exact k2 b hb

theorem colv (h : StRelAt c st a w I hdr F) (x : AV) (v : Value) (hx : Rep w I hdr x [] v) : ∃ B, Rep w I hdr (col st.o x) B v ∧ ∀ b, b ∈ B → Owned st F b := by
  have h2 : ∀ x v, Rep w I hdr x [] v → ∃ B, Rep w I hdr (col2 st.o x) B v ∧ ∀ b, b ∈ B → Owned st F b := by
    intro x v hx
    cases x with
    | agg l =>
      simp only [col2]
      simp only [Rep] at hx
      obtain ⟨cs, e, hr⟩ := hx
      obtain ⟨B, r, k⟩ := colv_list (fun x v hx => colv_cell h hx) hr
      exact ⟨B, by simp only [Rep]; exact ⟨cs, e, r⟩, k⟩
    | _ => exact colv_cell h hx
  cases x with
  | tup l =>
    simp only [col]
    simp only [Rep] at hx
    obtain ⟨cs, e, hr⟩ := hx
    obtain ⟨B, r, k⟩ := colv_list h2 hr
    exact ⟨B, by simp only [Rep]; exact ⟨cs, e, r⟩, k⟩
  | _ => exact h2 _ v hx

def resSem (tmps : Array Value) : ResultVar → Sem Value
  | .tmp t => pure (tmps.getD t undef)
  | .cell p t => do loadVar t (← asAddr (tmps.getD p undef))

theorem results_eq (fn : Func) (tmps : Array Value) : results fn tmps = (do let vs ← fn.results.mapM (resSem tmps); pure (if h : vs.size = 1 then vs[0] else .tuple vs)) := by
  unfold results
  congr 1

theorem resVars_run (h : StRelAt c st a w I hdr F) : ∀ {rs : List ResultVar} {K : List AV → Prop}, resVars P st rs K →
    ∃ l vs, K l ∧ RepL w I hdr l [] vs ∧ (rs.mapM (resSem a.tmps)).run P w = .ok vs w
  | [], K, hK => ⟨[], [], hK, by simp [RepL], by simp⟩
  | r :: rs, K, hK => by
    simp only [resVars] at hK
    have one : ∀ K' : AV → Prop, resVar P st r K' → ∃ x v, K' x ∧ Rep w I hdr x [] v ∧ (resSem a.tmps r).run P w = .ok v w := by
      intro K' hK'
      cases r with
      | tmp t => exact ⟨st.s t, _, hK', h.sl t, rfl⟩
      | cell p t =>
        simp only [resVar] at hK'
        obtain ⟨ad, e, v, hx, hl, hk, _, _, hr⟩ := loadOp_run h (h.sl p) hK'
        exact ⟨e.val, v, hk, hr, by simp only [resSem, Sem.run_bind, hx, asAddr, Sem.run_pure, Result.andThen_ok, hl]⟩
    obtain ⟨x, v, hk, hr, hrun⟩ := one _ hK
    obtain ⟨l, vs, hk2, hr2, hrun2⟩ := resVars_run h hk
    refine ⟨x :: l, v :: vs, hk2, ?_, ?_⟩
    · simp only [RepL]
      exact ⟨[], [], v, vs, rfl, rfl, hr, hr2⟩
    · simp only [List.mapM_cons, Sem.run_bind, hrun, hrun2, Result.andThen_ok, Sem.run_pure]

def ctx0 {P : Program} (w : World) (I : Nat → Prop) (hG : GOK P w I) : Ctx P := ⟨w, I, [], fun _ => none, (fun _ _ h => by cases h), hG, (fun _ h => by cases h)⟩
theorem st0_rel {P : Program} {w : World} {I : Nat → Prop} {args : List AV} {vs : List Value} {n : Nat} (hI : ∀ b, I b → b < w.heap.size) (hG : GOK P w I) (hr : RepL w I (fun _ => none) args [] vs) (hlen : args.length ≤ n) :
    StRelAt (ctx0 w I hG) (st0 args n) { tmps := vs.toArray ++ Array.replicate (n - vs.toArray.size) undef, defers := [] } w I (fun _ => none) (fun _ => []) := by
  have hl := hr.length
  refine ⟨fun _ hb => hb, hI, fun b hb => .inl hb, fun b _ _ => rfl, Nat.le_refl _, rfl, rfl, .refl _, rfl, ?_, fun t => ?_, fun _ _ h => by simp at h, fun nm x hx => ?_, fun nm hx => ?_, fun nm nm' _ hx => ?_, fun nm hx => ?_, fun nm hx => ?_, fun nm v h => by cases h⟩
  · simp [st0]; omega
  · simp only [st0, asS_numbered, Nat.zero_le, if_true, Nat.sub_zero]
    by_cases ht : t < args.length
    · have hg : args[t]? = some (args.getD t .junk) := by
        rw [List.getD_eq_getElem?_getD, List.getElem?_eq_getElem ht]; rfl
      obtain ⟨u, B₁, hu, hru, hB⟩ := hr.get hg
      have e : B₁ = [] := by
        cases B₁ with
        | nil => rfl
        | cons b B => have := hB b (by simp); cases this
      subst e
      have : (vs.toArray ++ Array.replicate (n - vs.toArray.size) undef).getD t undef = u := by
        rw [Array.getD_eq_getD_getElem?, Array.getElem?_append_left (by simp; omega)]
        simp [hu]
      rw [this]
      exact hru
    · rw [List.getD_eq_getElem?_getD, List.getElem?_eq_none (by omega)]
      simp [Rep]
  · simp [st0, asO] at hx
  · simp [st0, asO] at hx
  · simp [st0, asO] at hx
  · simp [st0, asO] at hx
  · simp [st0, asO] at hx

/-- **A function's contract, out of its walk.** -/
theorem acalls_of {f : FuncId} {fn : Func} {code : Code} {fz : Nat → Bool} {dr : Array Oper → St → (St → Prop) → Prop} {R : Array Oper → Bool} {args : List AV} {r : AV}
    (hdr : ∀ (c : Ctx P) (id : Nat) (ops : Array Oper) (K : St → Prop) (st : St) (a : Act) (w : World) (Q : Exit → Act → World → Prop), R ops = true → (∀ st a w, StRel c st a w → K st → Q .normal a w) → StRel c st a w → dr ops st K → (Code.region id ops true).wp P Q a w)
    (hf : P.funcs[f]? = some fn) (hb : fn.body = some code) (hname : (fn.name == "runtime.NumGoroutine") = false) (himm : immL args = true) (hlen : args.length ≤ fn.ntmps) (hcb : codeB R code = true)
    (h : awp P fz dr code (endQ P fn.results.toList r) (st0 args fn.ntmps)) : ACalls1 P f args r := by
  refine ⟨⟨fn, hf, by rw [hb]; rfl, hname⟩, fun w I B vs hI hG hr hB hBI => ?_⟩
  have e : B = [] := immL_nil args B vs himm hr
  subst e
  have h0 := st0_rel hI hG hr hlen
  have hw := awp_sound (P := P) (c := ctx0 w I hG) (fz := fz) (hdr _) code hcb _ _ _ _ ⟨I, _, _, h0⟩ h
  refine calls_of_wp hf hb (wp_mono hw ?_)
  have fin : ∀ st a w', StRel (ctx0 w I hG) st a w' → (resVars P st fn.results.toList fun l => Ret st (oneOr l) r) → a.defers = [] ∧ ∃ v, (results fn a.tmps).run P w' = .ok v w' ∧ ∃ args' r' v' I' B₁ B₂, r' = r ∧ Ending.returned v = .returned v' ∧
      (∀ b, I b → I' b) ∧ (∀ b, I' b → b < w'.heap.size) ∧ (∀ b, I' b → I b ∨ w.heap.size ≤ b ∨ b ∈ ([] : List Nat)) ∧ Rep w' I' (fun _ => none) r' B₁ v' ∧ RepL w' I' (fun _ => none) args' B₂ vs ∧ (B₁ ++ B₂).Nodup ∧
      (∀ b, b ∈ B₁ ++ B₂ → ¬ I' b ∧ (b ∈ ([] : List Nat) ∨ w.heap.size ≤ b)) ∧ (∀ b, b < w.heap.size → b ∉ ([] : List Nat) → w'.heap[b]? = w.heap[b]?) ∧ w.heap.size ≤ w'.heap.size ∧ w'.os = w.os ∧ w'.tape = w.tape ∧ OutOk w' w := by
    rintro st a w' ⟨I₂, hdr₂, F, hst⟩ hres
    obtain ⟨l, us, hret, hrl, hrun⟩ := resVars_run hst hres
    have hus := hrl.length
    -- the value
    have hval : ∃ v, (results fn a.tmps).run P w' = .ok v w' ∧ Rep w' I₂ hdr₂ (oneOr l) [] v := by
      have h2 : (results fn a.tmps).run P w' = .ok (if h : us.toArray.size = 1 then us.toArray[0] else .tuple us.toArray) w' := by
        rw [results_eq]
        simp only [Array.mapM_eq_mapM_toList, Sem.run_bind, Sem.run_map, hrun, Result.andThen_ok, Sem.run_pure]
      refine ⟨_, h2, ?_⟩
      by_cases h1 : us.length = 1
      · have : l.length = 1 := by omega
        match l, this, us, h1, hrl with
        | [x], _, [u], _, hrl =>
          simp only [RepL] at hrl
          obtain ⟨B₁, B₂, v, vs', e, e2, h1, _⟩ := hrl
          obtain ⟨rfl, rfl⟩ : B₁ = [] ∧ B₂ = [] := by simpa using e.symm
          cases e2
          simpa [oneOr] using h1
      · rw [dif_neg (by simpa using h1)]
        have : oneOr l = .tup l := by
          unfold oneOr
          split
          · simp at hus; omega
          · rfl
        rw [this]
        simp only [Rep]
        exact ⟨_, rfl, by simpa using hrl⟩
    obtain ⟨v, hv, hrv⟩ := hval
    have hargs : ∀ I', (∀ b, I₂ b → I' b) → RepL w' I' (fun _ => none) args [] vs := fun I' hI' =>
      RepL.frame (fun b hb => hI' b (hst.hI0 b hb)) (fun b hb => hst.fr b (hI b hb) (by simp [ctx0])) _ _ _ (fun b hb => by cases hb) hr
    refine ⟨hst.df, v, hv, ?_⟩
    obtain ⟨hn, hret⟩ := hret
    have hnew : ∀ b, I₂ b → I b ∨ w.heap.size ≤ b ∨ b ∈ ([] : List Nat) := fun b hb => hst.hInew b hb
    rcases hret with ⟨hnod, hle⟩ | hle
    · obtain ⟨B₁, hr1, hd1, hk1⟩ := cols3 hst _ v hrv hnod
      obtain ⟨B₂, hr2, hs2⟩ := hle.rep (Rep.nohdr (fun _ => none) _ _ _ hn hr1)
      refine ⟨args, r, v, I₂, B₂, [], rfl, rfl, hst.hI0, hst.hIlt, hnew, hr2, hargs I₂ fun _ hb => hb, ?_, ?_, fun b hb _ => hst.fr b hb (by simp [ctx0]), hst.size, hst.os, hst.tape, hst.out⟩
      · rw [List.append_nil]; exact hs2.nodup hd1
      · intro b hb
        rw [List.append_nil] at hb
        obtain ⟨nm, _, ho, hF⟩ := hk1 b (hs2.subset hb)
        exact ⟨hst.oi nm ho b hF, hst.oo nm ho b hF⟩
    · obtain ⟨B₁, hr1, hk1⟩ := colv hst _ v hrv
      have hview := Rep.view (fun _ => rfl) _ B₁ v (fun b => I₂ b ∨ Owned st F b) (fun b hb => .inl hb) (fun b hb => .inr (hk1 b hb)) (Rep.nohdr (fun _ => none) _ _ _ hn hr1)
      obtain ⟨B₂, hr2, hs2⟩ := hle.rep hview
      have eB : B₂ = [] := List.sublist_nil.1 hs2
      subst eB
      refine ⟨args, r, v, fun b => I₂ b ∨ Owned st F b, [], [], rfl, rfl, fun b hb => .inl (hst.hI0 b hb), fun b hb => ?_, fun b hb => ?_, hr2, hargs _ fun _ hb => .inl hb, by simp, fun b hb => by simp at hb, fun b hb _ => hst.fr b hb (by simp [ctx0]), hst.size, hst.os, hst.tape, hst.out⟩
      · rcases hb with hb | ⟨nm, ho, hF⟩
        · exact hst.hIlt b hb
        · exact hst.F_lt ho hF
      · rcases hb with hb | ⟨nm, ho, hF⟩
        · exact hnew b hb
        · rcases hst.oo nm ho b hF with h1 | h1
          · cases h1
          · exact .inr (.inl h1)
  rintro e a w' ⟨st, hq, hst⟩
  cases e with
  | normal => exact fin st a w' hst hq
  | ret => exact fin st a w' hst hq
  | _ => exact hq.elim
end
end Go.AM
