/-
  The abstract machine: states, and what it means that a frame and a world are told by one.
-/
import Derived.Test.YtnimmbjbinpajaaDoorAmRep
import Derived.Lib.TrailingZeros
namespace Go.AM

/-- `s`: what is known of the temporaries; `o`: the nodes that have names; `n`: how many temporaries there are. -/
structure St where
  s : Nat → AV
  o : Nat → Option AV
  n : Nat

/-- Tables of the library's that are read: their names, their cells. -/
def tabList : List (String × List Value) := [("math/bits.deBruijn64tab", Lib.deBruijn64tab.map fun (n : Nat) => Value.int .u8 (n : Int))]
/-- The tables lie where nobody writes. -/
def GOK (P : Program) (w : World) (I : Nat → Prop) : Prop := ∀ nm tab g, (nm, tab) ∈ tabList → P.globalNamed nm = some g → I g ∧ ∀ j v, tab[j]? = some v → w.cell? ⟨g, j, none⟩ = some v

theorem GOK.mono {P : Program} {w : World} {I J : Nat → Prop} (h : GOK P w I) (hIJ : ∀ b, I b → J b) : GOK P w J := fun nm tab g hm hg => ⟨hIJ g (h nm tab g hm hg).1, (h nm tab g hm hg).2⟩
/-- Where a call began: the world, the blocks that nobody writes, the blocks that were handed over. -/
structure Ctx (P : Program) where
  w0 : World
  I0 : Nat → Prop
  B0 : List Nat
  pin : Nat → Option Value
  hpin : ∀ nm v, pin nm = some v → 1000000000 ≤ nm
  hG : GOK P w0 I0
  hBI : ∀ b, b ∈ B0 → ¬ I0 b

/-- Nothing is written out; what is drawn is drawn. -/
def OutOk (w' w : World) : Prop := w'.output = w.output ∧ w.drawn ≤ w'.drawn
theorem OutOk.refl (w : World) : OutOk w w := ⟨rfl, Nat.le_refl _⟩
theorem OutOk.trans {w w' w'' : World} (h : OutOk w'' w') (h' : OutOk w' w) : OutOk w'' w := ⟨h.1.trans h'.1, Nat.le_trans h'.2 h.2⟩
structure StRelAt {P : Program} (c : Ctx P) (st : St) (a : Act) (w : World) (I : Nat → Prop) (hdr : Nat → Option Value) (F : Nat → List Nat) : Prop where
  hI0 : ∀ b, c.I0 b → I b
  hIlt : ∀ b, I b → b < w.heap.size
  hInew : ∀ b, I b → c.I0 b ∨ c.w0.heap.size ≤ b ∨ b ∈ c.B0
  fr : ∀ b, b < c.w0.heap.size → b ∉ c.B0 → w.heap[b]? = c.w0.heap[b]?
  size : c.w0.heap.size ≤ w.heap.size
  os : w.os = c.w0.os
  tape : w.tape = c.w0.tape
  out : OutOk w c.w0
  df : a.defers = []
  n : a.tmps.size = st.n
  sl : ∀ t, Rep w I hdr (st.s t) [] (a.tmps.getD t undef)
  hone : ∀ nm h, hdr nm = some h → h.oneCell' = true
  ob : ∀ nm x, st.o nm = some x → ∃ h, hdr nm = some h ∧ Rep w I hdr x (F nm) h
  nd : ∀ nm, st.o nm ≠ none → (F nm).Nodup
  dj : ∀ nm nm', nm ≠ nm' → st.o nm ≠ none → st.o nm' ≠ none → ∀ b, b ∈ F nm → b ∉ F nm'
  oi : ∀ nm, st.o nm ≠ none → ∀ b, b ∈ F nm → ¬ I b
  oo : ∀ nm, st.o nm ≠ none → ∀ b, b ∈ F nm → b ∈ c.B0 ∨ c.w0.heap.size ≤ b
  pin : ∀ nm v, c.pin nm = some v → hdr nm = some v

def StRel {P : Program} (c : Ctx P) (st : St) (a : Act) (w : World) : Prop := ∃ I hdr F, StRelAt c st a w I hdr F

mutual
/-- No header, no pointer of the node `d`. -/
def noR (d : Nat) : AV → Bool
  | .ref nm => nm != d
  | .pt nm _ => nm != d
  | .sfx nm _ => nm != d
  | .pfx nm _ => nm != d
  | .agg l => noRL d l
  | .tup l => noRL d l
  | .fno _ l => noRL d l
  | .box l => noRL d l
  | .opw _ l => noRL d l
  | _ => true
def noRL (d : Nat) : List AV → Bool
  | [] => true
  | x :: xs => noR d x && noRL d xs
end

mutual
/-- No header, no pointer of any node. -/
def nrf : AV → Bool
  | .ref _ => false
  | .pt _ _ => false
  | .sfx _ _ => false
  | .pfx _ _ => false
  | .agg l => nrfL l
  | .tup l => nrfL l
  | .fno _ l => nrfL l
  | .box l => nrfL l
  | .opw _ l => nrfL l
  | _ => true
def nrfL : List AV → Bool
  | [] => true
  | x :: xs => nrf x && nrfL xs
end

/-- What may be copied: it owns nothing. -/
def cpy : AV → Bool
  | .own .. | .box _ | .mp _ | .agg _ | .tup _ | .opw _ _ | .fno _ _ => false
  | _ => true

theorem cpy_nil {w : World} {I : Nat → Prop} {hdr : Nat → Option Value} {d : AV} {B : List Nat} {v : Value} (hc : cpy d = true) (h : Rep w I hdr d B v) : B = [] := by
  cases d <;> simp only [cpy, Rep, Bool.false_eq_true] at hc h <;> first | exact h | exact h.1

mutual
theorem Rep.hdr {w : World} {I : Nat → Prop} {hdr hdr' : Nat → Option Value} {d : Nat} (hh : ∀ x, x ≠ d → hdr' x = hdr x) :
    ∀ (x : AV) (B : List Nat) (v : Value), noR d x = true → Rep w I hdr x B v → Rep w I hdr' x B v
  | .junk, _, _, _, h => by simpa only [Rep] using h
  | .val x, _, _, _, h => by simpa only [Rep] using h
  | .agg l, B, v, hn, h => by
    simp only [Rep, noR] at h hn ⊢
    obtain ⟨cs, e, h⟩ := h
    exact ⟨cs, e, RepL.hdr hh l B _ hn h⟩
  | .tup l, B, v, hn, h => by
    simp only [Rep, noR] at h hn ⊢
    obtain ⟨cs, e, h⟩ := h
    exact ⟨cs, e, RepL.hdr hh l B _ hn h⟩
  | .fno f l, B, v, hn, h => by
    simp only [Rep, noR] at h hn ⊢
    obtain ⟨cs, e, h⟩ := h
    exact ⟨cs, e, RepL.hdr hh l B _ hn h⟩
  | .sl sz nn l, B, v, hn, h => by simpa only [Rep] using h
  | .ip l, B, v, hn, h => by simpa only [Rep] using h
  | .fn f caps, B, v, hn, h => by simpa only [Rep] using h
  | .fb f caps, B, v, hn, h => by simpa only [Rep] using h
  | .own sz nn l, B, v, hn, h => by simpa only [Rep] using h
  | .box l, B, v, hn, h => by
    simp only [Rep, noR] at h hn ⊢
    obtain ⟨b, C, ty, B', hv, hb, hC, h⟩ := h
    exact ⟨b, C, ty, B', hv, hb, hC, RepL.hdr hh l B' _ hn h⟩
  | .opw sz l, B, v, hn, h => by
    simp only [Rep, noR] at h hn ⊢
    obtain ⟨b, n, c, C, ty, B', hv, hb, hC, h1, h2, h3, h⟩ := h
    exact ⟨b, n, c, C, ty, B', hv, hb, hC, h1, h2, h3, RepL.hdr hh l B' _ hn h⟩
  | .mp es, B, v, hn, h => by simpa only [Rep] using h
  | .ref nm, B, v, hn, h => by
    simp only [Rep, noR, bne_iff_ne] at h hn ⊢
    rw [hh nm hn]; exact h
  | .pt nm off, B, v, hn, h => by
    simp only [Rep, noR, bne_iff_ne] at h hn ⊢
    rw [hh nm hn]; exact h
  | .sfx nm off, B, v, hn, h => by
    simp only [Rep, noR, bne_iff_ne] at h hn ⊢
    rw [hh nm hn]; exact h
  | .pfx nm k, B, v, hn, h => by
    simp only [Rep, noR, bne_iff_ne] at h hn ⊢
    rw [hh nm hn]; exact h
theorem RepL.hdr {w : World} {I : Nat → Prop} {hdr hdr' : Nat → Option Value} {d : Nat} (hh : ∀ x, x ≠ d → hdr' x = hdr x) :
    ∀ (l : List AV) (B : List Nat) (vs : List Value), noRL d l = true → RepL w I hdr l B vs → RepL w I hdr' l B vs
  | [], _, _, _, h => by simpa only [RepL] using h
  | x :: xs, B, vs, hn, h => by
    simp only [RepL, noRL, Bool.and_eq_true] at h hn ⊢
    obtain ⟨B₁, B₂, v, vs', e1, e2, h1, h2⟩ := h
    exact ⟨B₁, B₂, v, vs', e1, e2, Rep.hdr hh x B₁ v hn.1 h1, RepL.hdr hh xs B₂ vs' hn.2 h2⟩
end

mutual
theorem Rep.nohdr {w : World} {I : Nat → Prop} {hdr : Nat → Option Value} (hdr' : Nat → Option Value) :
    ∀ (x : AV) (B : List Nat) (v : Value), nrf x = true → Rep w I hdr x B v → Rep w I hdr' x B v
  | .junk, _, _, _, h => by simpa only [Rep] using h
  | .val x, _, _, _, h => by simpa only [Rep] using h
  | .agg l, B, v, hn, h => by
    simp only [Rep, nrf] at h hn ⊢
    obtain ⟨cs, e, h⟩ := h
    exact ⟨cs, e, RepL.nohdr hdr' l B _ hn h⟩
  | .tup l, B, v, hn, h => by
    simp only [Rep, nrf] at h hn ⊢
    obtain ⟨cs, e, h⟩ := h
    exact ⟨cs, e, RepL.nohdr hdr' l B _ hn h⟩
  | .fno f l, B, v, hn, h => by
    simp only [Rep, nrf] at h hn ⊢
    obtain ⟨cs, e, h⟩ := h
    exact ⟨cs, e, RepL.nohdr hdr' l B _ hn h⟩
  | .sl sz nn l, B, v, hn, h => by simpa only [Rep] using h
  | .ip l, B, v, hn, h => by simpa only [Rep] using h
  | .fn f caps, B, v, hn, h => by simpa only [Rep] using h
  | .fb f caps, B, v, hn, h => by simpa only [Rep] using h
  | .own sz nn l, B, v, hn, h => by simpa only [Rep] using h
  | .box l, B, v, hn, h => by
    simp only [Rep, nrf] at h hn ⊢
    obtain ⟨b, C, ty, B', hv, hb, hC, h⟩ := h
    exact ⟨b, C, ty, B', hv, hb, hC, RepL.nohdr hdr' l B' _ hn h⟩
  | .opw sz l, B, v, hn, h => by
    simp only [Rep, nrf] at h hn ⊢
    obtain ⟨b, n, c, C, ty, B', hv, hb, hC, h1, h2, h3, h⟩ := h
    exact ⟨b, n, c, C, ty, B', hv, hb, hC, h1, h2, h3, RepL.nohdr hdr' l B' _ hn h⟩
  | .mp es, B, v, hn, h => by simpa only [Rep] using h
  | .ref nm, B, v, hn, h => by simp [nrf] at hn
  | .pt nm off, B, v, hn, h => by simp [nrf] at hn
  | .sfx nm off, B, v, hn, h => by simp [nrf] at hn
  | .pfx nm k, B, v, hn, h => by simp [nrf] at hn
theorem RepL.nohdr {w : World} {I : Nat → Prop} {hdr : Nat → Option Value} (hdr' : Nat → Option Value) :
    ∀ (l : List AV) (B : List Nat) (vs : List Value), nrfL l = true → RepL w I hdr l B vs → RepL w I hdr' l B vs
  | [], _, _, _, h => by simpa only [RepL] using h
  | x :: xs, B, vs, hn, h => by
    simp only [RepL, nrfL, Bool.and_eq_true] at h hn ⊢
    obtain ⟨B₁, B₂, v, vs', e1, e2, h1, h2⟩ := h
    exact ⟨B₁, B₂, v, vs', e1, e2, Rep.nohdr hdr' x B₁ v hn.1 h1, RepL.nohdr hdr' xs B₂ vs' hn.2 h2⟩
end

mutual
theorem nrf_of_none {w : World} {I : Nat → Prop} : ∀ (x : AV) (B : List Nat) (v : Value), Rep w I (fun _ => none) x B v → nrf x = true
  | .junk, _, _, _ => rfl
  | .val x, _, _, _ => rfl
  | .agg l, B, v, h => by
    simp only [Rep, nrf] at h ⊢
    obtain ⟨cs, e, h⟩ := h
    exact nrfL_of_none l B _ h
  | .tup l, B, v, h => by
    simp only [Rep, nrf] at h ⊢
    obtain ⟨cs, e, h⟩ := h
    exact nrfL_of_none l B _ h
  | .fno f l, B, v, h => by
    simp only [Rep, nrf] at h ⊢
    obtain ⟨cs, e, h⟩ := h
    exact nrfL_of_none l B _ h
  | .sl sz nn l, _, _, _ => rfl
  | .ip l, _, _, _ => rfl
  | .fn f caps, _, _, _ => rfl
  | .fb f caps, _, _, _ => rfl
  | .own sz nn l, _, _, _ => rfl
  | .box l, B, v, h => by
    simp only [Rep, nrf] at h ⊢
    obtain ⟨b, C, ty, B', hv, hb, hC, h⟩ := h
    exact nrfL_of_none l B' _ h
  | .opw sz l, B, v, h => by
    simp only [Rep, nrf] at h ⊢
    obtain ⟨b, n, c, C, ty, B', hv, hb, hC, h1, h2, h3, h⟩ := h
    exact nrfL_of_none l B' _ h
  | .mp es, _, _, _ => rfl
  | .ref nm, _, _, h => by simp [Rep] at h
  | .pt nm off, _, _, h => by simp [Rep] at h
  | .sfx nm off, _, _, h => by simp [Rep] at h
  | .pfx nm k, _, _, h => by simp [Rep] at h
theorem nrfL_of_none {w : World} {I : Nat → Prop} : ∀ (l : List AV) (B : List Nat) (vs : List Value), RepL w I (fun _ => none) l B vs → nrfL l = true
  | [], _, _, _ => rfl
  | x :: xs, B, vs, h => by
    simp only [RepL, nrfL, Bool.and_eq_true] at h ⊢
    obtain ⟨B₁, B₂, v, vs', e1, e2, h1, h2⟩ := h
    exact ⟨nrf_of_none x B₁ v h1, nrfL_of_none xs B₂ vs' h2⟩
end

mutual
theorem noR_of_nrf (d : Nat) : ∀ x, nrf x = true → noR d x = true
  | .junk, _ => rfl
  | .val x, _ => rfl
  | .agg l, h => by simp only [nrf, noR] at h ⊢; exact noRL_of_nrfL d l h
  | .tup l, h => by simp only [nrf, noR] at h ⊢; exact noRL_of_nrfL d l h
  | .fno f l, h => by simp only [nrf, noR] at h ⊢; exact noRL_of_nrfL d l h
  | .sl sz nn l, _ => rfl
  | .ip l, _ => rfl
  | .fn f caps, _ => rfl
  | .fb f caps, _ => rfl
  | .own sz nn l, _ => rfl
  | .box l, h => by simp only [nrf, noR] at h ⊢; exact noRL_of_nrfL d l h
  | .opw sz l, h => by simp only [nrf, noR] at h ⊢; exact noRL_of_nrfL d l h
  | .mp es, _ => rfl
  | .ref nm, h => by simp [nrf] at h
  | .pt nm off, h => by simp [nrf] at h
  | .sfx nm off, h => by simp [nrf] at h
  | .pfx nm k, h => by simp [nrf] at h
theorem noRL_of_nrfL (d : Nat) : ∀ l, nrfL l = true → noRL d l = true
  | [], _ => rfl
  | x :: xs, h => by
    simp only [nrfL, noRL, Bool.and_eq_true] at h ⊢
    exact ⟨noR_of_nrf d x h.1, noRL_of_nrfL d xs h.2⟩
end

/-- `upd f d x`: `f`, but `x` at `d`. -/
def upd {α : Type} (f : Nat → α) (d : Nat) (x : α) : Nat → α := fun t => if t = d then x else f t
theorem upd_same {α : Type} (f : Nat → α) (d : Nat) (x : α) : upd f d x d = x := by simp [upd]
theorem upd_ne {α : Type} (f : Nat → α) (d : Nat) (x : α) {t : Nat} (h : t ≠ d) : upd f d x t = f t := by simp [upd, h]
theorem upd_comm {α : Type} (f : Nat → α) {d e : Nat} (x y : α) (h : d ≠ e) : upd (upd f d x) e y = upd (upd f e y) d x := by
  funext t; unfold upd
  by_cases h1 : t = e
  · subst h1; rw [if_pos rfl, if_neg (fun e => h e.symm), if_pos rfl]
  · by_cases h2 : t = d
    · subst h2; rw [if_neg h1, if_pos rfl, if_pos rfl]
    · rw [if_neg h1, if_neg h2, if_neg h2, if_neg h1]

def St.put (st : St) (dst : Option Nat) (x : AV) : St := match dst with | some d => { st with s := upd st.s d x } | none => st
def St.node (st : St) (nm : Nat) (x : Option AV) : St := { st with o := upd st.o nm x }
/-- Nobody holds a header or a pointer of the node `d`. -/
def St.free (st : St) (d : Nat) : Prop := d < 1000000000 ∧ (∀ t, noR d (st.s t) = true) ∧ ∀ nm x, st.o nm = some x → noR d x = true

section
variable {P : Program} {c : Ctx P} {st : St} {a : Act} {w : World} {I : Nat → Prop} {hdr : Nat → Option Value} {F : Nat → List Nat}

theorem StRelAt.gok (h : StRelAt c st a w I hdr F) : GOK P w I := by
  intro nm tab g hm hg
  obtain ⟨h1, h2⟩ := c.hG nm tab g hm hg
  refine ⟨h.hI0 g h1, fun j v hv => ?_⟩
  have h3 := h2 j v hv
  have hlt : g < c.w0.heap.size := by
    unfold World.cell? at h3
    simp only at h3
    cases hh : c.w0.heap[g]? with
    | none => rw [hh] at h3; cases h3
    | some o => exact (Array.getElem?_eq_some_iff.1 hh).1
  have h4 := h.fr g hlt (fun hb => c.hBI g hb h1)
  unfold World.cell? at h3 ⊢
  simp only at h3 ⊢
  rw [h4]; exact h3
theorem getD_put {a : Act} {d : Nat} (hd : d < a.tmps.size) (v : Value) (t : Nat) : (a.put (some d) v).tmps.getD t undef = if t = d then v else a.tmps.getD t undef := by
  simp only [Act.put]
  by_cases h : t = d
  · subst h; simp [hd]
  · rw [if_neg h]
    simp only [Array.getD_eq_getD_getElem?]
    rw [Array.getElem?_setIfInBounds_ne (fun e => h e.symm)]

/-- A world with the same memory. -/
structure Same (w w' : World) : Prop where
  heap : w'.heap = w.heap
  os : w'.os = w.os
  tape : w'.tape = w.tape
  out : OutOk w' w

theorem Same.refl (w : World) : Same w w := ⟨rfl, rfl, rfl, .refl w⟩
theorem Same.drew (w : World) : Same w { w with drawn := w.drawn + 1 } := ⟨rfl, rfl, rfl, rfl, Nat.le_succ _⟩

theorem StRelAt.same (h : StRelAt c st a w I hdr F) {w' : World} (hs : Same w w') : StRelAt c st a w' I hdr F := by
  have hh : ∀ b : Nat, w'.heap[b]? = w.heap[b]? := fun b => by rw [hs.heap]
  refine ⟨h.hI0, fun b hb => by rw [hs.heap]; exact h.hIlt b hb, h.hInew, fun b hb h0 => by rw [hs.heap]; exact h.fr b hb h0, by rw [hs.heap]; exact h.size, hs.os.trans h.os, hs.tape.trans h.tape, hs.out.trans h.out,
    h.df, h.n, fun t => Rep.frame (fun _ hb => hb) (fun b _ => hh b) _ _ _ (fun b _ => hh b) (h.sl t), h.hone, fun nm x hx => ?_, h.nd, h.dj, h.oi, h.oo, h.pin⟩
  obtain ⟨v, hv, hr⟩ := h.ob nm x hx
  exact ⟨v, hv, Rep.frame (fun _ hb => hb) (fun b _ => hh b) _ _ _ (fun b _ => hh b) hr⟩

/-- A value goes into a temporary, nothing else happens. -/
theorem StRelAt.put (h : StRelAt c st a w I hdr F) {d : Nat} (hd : d < st.n) {x : AV} {v : Value} (hx : Rep w I hdr x [] v) : StRelAt c (st.put (some d) x) (a.put (some d) v) w I hdr F := by
  have hd' : d < a.tmps.size := by rw [h.n]; exact hd
  refine ⟨h.hI0, h.hIlt, h.hInew, h.fr, h.size, h.os, h.tape, h.out, h.df, by simpa [Act.put, St.put] using h.n, fun t => ?_, h.hone, h.ob, h.nd, h.dj, h.oi, h.oo, h.pin⟩
  rw [getD_put hd']
  simp only [St.put, upd]
  split
  · exact hx
  · exact h.sl t

theorem StRelAt.put_none (h : StRelAt c st a w I hdr F) {x : AV} {v : Value} : StRelAt c (st.put none x) (a.put none v) w I hdr F := h

/-- A new block that nobody will write. -/
theorem StRelAt.newI (h : StRelAt c st a w I hdr F) {w' : World} {o : Obj} (hw : w'.heap = w.heap.push o) (ho : w'.os = w.os) (ht : w'.tape = w.tape) (hu : OutOk w' w) :
    StRelAt c st a w' (fun b => I b ∨ b = w.heap.size) hdr F := by
  have hh : ∀ b : Nat, b < w.heap.size → w'.heap[b]? = w.heap[b]? := fun b hb => by rw [hw, Array.getElem?_push, if_neg (by omega)]
  refine ⟨fun b hb => .inl (h.hI0 b hb), fun b hb => ?_, fun b hb => ?_, fun b hb h0 => ?_, by rw [hw, Array.size_push]; have := h.size; omega, ho.trans h.os, ht.trans h.tape, hu.trans h.out,
    h.df, h.n, fun t => ?_, h.hone, fun nm x hx => ?_, h.nd, h.dj, fun nm hx b hb => ?_, h.oo, h.pin⟩
  · rw [hw, Array.size_push]
    rcases hb with hb | hb
    · have := h.hIlt b hb; omega
    · omega
  · rcases hb with hb | hb
    · exact h.hInew b hb
    · exact .inr (.inl (by have := h.size; omega))
  · rw [hh b (by have := h.size; omega)]; exact h.fr b hb h0
  · exact Rep.frame (fun _ hb => .inl hb) (fun b hb => hh b (h.hIlt b hb)) _ _ _ (fun b hb => by cases hb) (h.sl t)
  · obtain ⟨v, hv, hr⟩ := h.ob nm x hx
    exact ⟨v, hv, Rep.frame (fun _ hb => .inl hb) (fun b hb => hh b (h.hIlt b hb)) _ _ _ (fun b hb => hh b (Rep.lt _ _ _ hr b hb)) hr⟩
  · rintro (hb' | hb')
    · exact h.oi nm hx b hb hb'
    · obtain ⟨x, hx'⟩ := Option.ne_none_iff_exists'.1 hx
      obtain ⟨v, hv, hr⟩ := h.ob nm x hx'
      have := Rep.lt _ _ _ hr b hb
      omega

/-- More memory. -/
theorem StRelAt.grow (h : StRelAt c st a w I hdr F) {w' : World} (hw : ∀ b : Nat, b < w.heap.size → w'.heap[b]? = w.heap[b]?) (hsz : w.heap.size ≤ w'.heap.size) (ho : w'.os = w.os) (ht : w'.tape = w.tape) (hu : OutOk w' w) :
    StRelAt c st a w' I hdr F := by
  refine ⟨h.hI0, fun b hb => Nat.lt_of_lt_of_le (h.hIlt b hb) hsz, h.hInew, fun b hb h0 => ?_, Nat.le_trans h.size hsz, ho.trans h.os, ht.trans h.tape, hu.trans h.out,
    h.df, h.n, fun t => ?_, h.hone, fun nm x hx => ?_, h.nd, h.dj, h.oi, h.oo, h.pin⟩
  · rw [hw b (by have := h.size; omega)]; exact h.fr b hb h0
  · exact Rep.frame (fun _ hb => hb) (fun b hb => hw b (h.hIlt b hb)) _ _ _ (fun b hb => by cases hb) (h.sl t)
  · obtain ⟨v, hv, hr⟩ := h.ob nm x hx
    exact ⟨v, hv, Rep.frame (fun _ hb => hb) (fun b hb => hw b (h.hIlt b hb)) _ _ _ (fun b hb => hw b (Rep.lt _ _ _ hr b hb)) hr⟩

/-- Memory changes in blocks that are nobody's. -/
theorem StRelAt.world (h : StRelAt c st a w I hdr F) (X : List Nat) (hXI : ∀ b, b ∈ X → ¬ I b) (hXF : ∀ nm, st.o nm ≠ none → ∀ b, b ∈ F nm → b ∉ X) (hXo : ∀ b, b ∈ X → b ∈ c.B0 ∨ c.w0.heap.size ≤ b) {w' : World}
    (hw : ∀ b : Nat, b < w.heap.size → b ∉ X → w'.heap[b]? = w.heap[b]?) (hsz : w.heap.size ≤ w'.heap.size) (ho : w'.os = w.os) (ht : w'.tape = w.tape) (hu : OutOk w' w) :
    StRelAt c st a w' I hdr F := by
  refine ⟨h.hI0, fun b hb => Nat.lt_of_lt_of_le (h.hIlt b hb) hsz, h.hInew, fun b hb h0 => ?_, Nat.le_trans h.size hsz, ho.trans h.os, ht.trans h.tape, hu.trans h.out,
    h.df, h.n, fun t => ?_, h.hone, fun nm x hx => ?_, h.nd, h.dj, h.oi, h.oo, h.pin⟩
  · rw [hw b (by have := h.size; omega) (fun hX => by rcases hXo b hX with h1 | h1; exact h0 h1; omega)]; exact h.fr b hb h0
  · exact Rep.frame (fun _ hb => hb) (fun b hb => hw b (h.hIlt b hb) (fun hX => hXI b hX hb)) _ _ _ (fun b hb => by cases hb) (h.sl t)
  · obtain ⟨v, hv, hr⟩ := h.ob nm x hx
    exact ⟨v, hv, Rep.frame (fun _ hb => hb) (fun b hb => hw b (h.hIlt b hb) (fun hX => hXI b hX hb)) _ _ _ (fun b hb => hw b (Rep.lt _ _ _ hr b hb) (hXF nm (by rw [hx]; simp) b hb)) hr⟩

/-- Blocks that are nobody's are from now on written by nobody. -/
theorem StRelAt.freeze (h : StRelAt c st a w I hdr F) (B : List Nat) (hB : ∀ nm, st.o nm ≠ none → ∀ b, b ∈ F nm → b ∉ B) (hlt : ∀ b, b ∈ B → b < w.heap.size) (hBo : ∀ b, b ∈ B → b ∈ c.B0 ∨ c.w0.heap.size ≤ b) :
    StRelAt c st a w (fun b => I b ∨ b ∈ B) hdr F := by
  refine ⟨fun b hb => .inl (h.hI0 b hb), fun b hb => hb.elim (h.hIlt b) (hlt b), fun b hb => ?_, h.fr, h.size, h.os, h.tape, h.out, h.df, h.n, fun t => ?_, h.hone, fun nm x hx => ?_, h.nd, h.dj, fun nm hx b hb => ?_, h.oo, h.pin⟩
  · rcases hb with hb | hb
    · exact h.hInew b hb
    · rcases hBo b hb with h1 | h1
      · exact .inr (.inr h1)
      · exact .inr (.inl h1)
  · exact Rep.frame (fun _ hb => .inl hb) (fun b hb => rfl) _ _ _ (fun b hb => rfl) (h.sl t)
  · obtain ⟨v, hv, hr⟩ := h.ob nm x hx
    exact ⟨v, hv, Rep.frame (fun _ hb => .inl hb) (fun b hb => rfl) _ _ _ (fun b hb => rfl) hr⟩
  · rintro (h1 | h1)
    · exact h.oi nm hx b hb h1
    · exact hB nm hx b hb h1

theorem StRelAt.F_lt (h : StRelAt c st a w I hdr F) {nm : Nat} (hx : st.o nm ≠ none) {b : Nat} (hb : b ∈ F nm) : b < w.heap.size := by
  obtain ⟨x, hx'⟩ := Option.ne_none_iff_exists'.1 hx
  obtain ⟨v, hv, hr⟩ := h.ob nm x hx'
  exact Rep.lt _ _ _ hr b hb

/-- A node gets a name that nobody uses: its blocks are new, or were nobody's. -/
theorem StRelAt.name (h : StRelAt c st a w I hdr F) {d : Nat} (hf : st.free d) (hn : st.o d = none) {x : AV} {B : List Nat} {v : Value}
    (hx : Rep w I hdr x B v) (hxd : noR d x = true) (hone : v.oneCell' = true) (hB : B.Nodup) (hBF : ∀ nm, st.o nm ≠ none → ∀ b, b ∈ F nm → b ∉ B) (hBI : ∀ b, b ∈ B → ¬ I b) (hBo : ∀ b, b ∈ B → b ∈ c.B0 ∨ c.w0.heap.size ≤ b) :
    StRelAt c (st.node d (some x)) a w I (upd hdr d (some v)) (upd F d B) := by
  have hh : ∀ y, y ≠ d → upd hdr d (some v) y = hdr y := fun y hy => upd_ne _ _ _ hy
  refine ⟨h.hI0, h.hIlt, h.hInew, h.fr, h.size, h.os, h.tape, h.out, h.df, h.n, fun t => Rep.hdr hh _ _ _ (hf.2.1 t) (h.sl t), ?_, ?_, ?_, ?_, ?_, ?_, fun nm u hu => by
    rw [upd_ne _ _ _ (fun e => by have := c.hpin nm u hu; have := hf.1; omega)]; exact h.pin nm u hu⟩
  · intro nm u hu
    by_cases e : nm = d
    · subst e; rw [upd_same] at hu; cases hu; exact hone
    · rw [upd_ne _ _ _ e] at hu; exact h.hone nm u hu
  · intro nm y hy
    simp only [St.node] at hy
    by_cases e : nm = d
    · subst e
      rw [upd_same] at hy
      cases hy
      exact ⟨v, upd_same _ _ _, by rw [upd_same]; exact Rep.hdr hh _ _ _ hxd hx⟩
    · rw [upd_ne _ _ _ e] at hy
      obtain ⟨u, hu, hr⟩ := h.ob nm y hy
      exact ⟨u, by rw [upd_ne _ _ _ e]; exact hu, by rw [upd_ne _ _ _ e]; exact Rep.hdr hh _ _ _ (hf.2.2 nm y hy) hr⟩
  · intro nm hy
    simp only [St.node] at hy
    by_cases e : nm = d
    · subst e; rw [upd_same]; exact hB
    · rw [upd_ne _ _ _ e] at hy ⊢; exact h.nd nm hy
  · intro nm nm' hne hy hy' b hb hb'
    simp only [St.node] at hy hy'
    by_cases e : nm = d
    · subst e
      rw [upd_same] at hb
      rw [upd_ne _ _ _ (fun e => hne e.symm)] at hy' hb'
      exact hBF nm' hy' b hb' hb
    · by_cases e' : nm' = d
      · subst e'
        rw [upd_same] at hb'
        rw [upd_ne _ _ _ e] at hy hb
        exact hBF nm hy b hb hb'
      · rw [upd_ne _ _ _ e] at hy hb
        rw [upd_ne _ _ _ e'] at hy' hb'
        exact h.dj nm nm' hne hy hy' b hb hb'
  · intro nm hy b hb
    simp only [St.node] at hy
    by_cases e : nm = d
    · subst e; rw [upd_same] at hb; exact hBI b hb
    · rw [upd_ne _ _ _ e] at hy hb; exact h.oi nm hy b hb
  · intro nm hy b hb
    simp only [St.node] at hy
    by_cases e : nm = d
    · subst e; rw [upd_same] at hb; exact hBo b hb
    · rw [upd_ne _ _ _ e] at hy hb; exact h.oo nm hy b hb

/-- A node is forgotten. -/
theorem StRelAt.drop (h : StRelAt c st a w I hdr F) (nm : Nat) : StRelAt c (st.node nm none) a w I hdr F := by
  have key : ∀ x y, (st.node nm none).o x = some y → st.o x = some y := by
    intro x y hx
    simp only [St.node, upd] at hx
    split at hx
    · cases hx
    · exact hx
  have key' : ∀ x, (st.node nm none).o x ≠ none → st.o x ≠ none := by
    intro x hx e
    apply hx
    simp only [St.node, upd]
    split
    · rfl
    · exact e
  exact ⟨h.hI0, h.hIlt, h.hInew, h.fr, h.size, h.os, h.tape, h.out, h.df, h.n, h.sl, h.hone, fun x y hx => h.ob x y (key x y hx), fun x hx => h.nd x (key' x hx), fun x y hne hx hy => h.dj x y hne (key' x hx) (key' y hy),
    fun x hx => h.oi x (key' x hx), fun x hx => h.oo x (key' x hx), h.pin⟩

/-- Memory changes in blocks of ONE node (or in new ones, or in nobody's); the node keeps its header. -/
theorem StRelAt.turn2 (h : StRelAt c st a w I hdr F) {nm : Nat} {x x' : AV} {v : Value} {B' : List Nat} {w' : World} (hx : st.o nm = some x) (hv : hdr nm = some v)
    (hr : Rep w' I hdr x' B' v) (hw : ∀ b, b < w.heap.size → b ∉ F nm → w'.heap[b]? = w.heap[b]?) (hsz : w.heap.size ≤ w'.heap.size) (ho : w'.os = w.os) (ht : w'.tape = w.tape) (hu : OutOk w' w)
    (hB : B'.Nodup) (hBsub : ∀ b, b ∈ B' → b ∈ F nm ∨ w.heap.size ≤ b ∨ ((∀ k, st.o k ≠ none → b ∉ F k) ∧ ¬ I b ∧ (b ∈ c.B0 ∨ c.w0.heap.size ≤ b))) : StRelAt c (st.node nm (some x')) a w' I hdr (upd F nm B') := by
  have hxn : st.o nm ≠ none := by rw [hx]; simp
  have hIne : ∀ b, I b → b ∉ F nm := fun b hb hF => h.oi nm hxn b hF hb
  have hIw : ∀ b, I b → w'.heap[b]? = w.heap[b]? := fun b hb => hw b (h.hIlt b hb) (hIne b hb)
  refine ⟨h.hI0, fun b hb => Nat.lt_of_lt_of_le (h.hIlt b hb) hsz, h.hInew, fun b hb h0 => ?_, Nat.le_trans h.size hsz, ho.trans h.os, ht.trans h.tape, hu.trans h.out, h.df, h.n, fun t => ?_, h.hone, ?_, ?_, ?_, ?_, ?_, h.pin⟩
  · rw [hw b (by have := h.size; omega) (fun hF => by rcases h.oo nm hxn b hF with h1 | h1; exact h0 h1; omega)]
    exact h.fr b hb h0
  · exact Rep.frame (fun _ hb => hb) hIw _ _ _ (fun b hb => by cases hb) (h.sl t)
  · intro k y hy
    simp only [St.node] at hy
    by_cases e : k = nm
    · subst e
      rw [upd_same] at hy ⊢
      cases hy
      exact ⟨v, hv, hr⟩
    · rw [upd_ne _ _ _ e] at hy ⊢
      obtain ⟨u, hu', hr'⟩ := h.ob k y hy
      refine ⟨u, hu', Rep.frame (fun _ hb => hb) hIw _ _ _ (fun b hb => hw b (Rep.lt _ _ _ hr' b hb) (h.dj k nm e (by rw [hy]; simp) hxn b hb)) hr'⟩
  · intro k hy
    simp only [St.node] at hy
    by_cases e : k = nm
    · subst e; rw [upd_same]; exact hB
    · rw [upd_ne _ _ _ e] at hy ⊢; exact h.nd k hy
  · intro k k' hne hy hy' b hb hb'
    simp only [St.node] at hy hy'
    have lt : ∀ j, st.o j ≠ none → ∀ b, b ∈ F j → b < w.heap.size := by
      intro j hj b hb
      obtain ⟨y, hy⟩ := Option.ne_none_iff_exists'.1 hj
      obtain ⟨u, _, hr'⟩ := h.ob j y hy
      exact Rep.lt _ _ _ hr' b hb
    by_cases e : k = nm
    · subst e
      rw [upd_same] at hb
      rw [upd_ne _ _ _ (fun e => hne e.symm)] at hy' hb'
      rcases hBsub b hb with h1 | h1 | h1
      · exact h.dj k k' hne hxn hy' b h1 hb'
      · have := lt k' hy' b hb'; omega
      · exact h1.1 k' hy' hb'
    · by_cases e' : k' = nm
      · subst e'
        rw [upd_same] at hb'
        rw [upd_ne _ _ _ e] at hy hb
        rcases hBsub b hb' with h1 | h1 | h1
        · exact h.dj k k' hne hy hxn b hb h1
        · have := lt k hy b hb; omega
        · exact h1.1 k hy hb
      · rw [upd_ne _ _ _ e] at hy hb
        rw [upd_ne _ _ _ e'] at hy' hb'
        exact h.dj k k' hne hy hy' b hb hb'
  · intro k hy b hb
    simp only [St.node] at hy
    by_cases e : k = nm
    · subst e
      rw [upd_same] at hb
      rcases hBsub b hb with h1 | h1 | h1
      · exact h.oi k hxn b h1
      · intro hi; have := h.hIlt b hi; omega
      · exact h1.2.1
    · rw [upd_ne _ _ _ e] at hy hb; exact h.oi k hy b hb
  · intro k hy b hb
    simp only [St.node] at hy
    by_cases e : k = nm
    · subst e
      rw [upd_same] at hb
      rcases hBsub b hb with h1 | h1 | h1
      · exact h.oo k hxn b h1
      · right; have := h.size; omega
      · exact h1.2.2
    · rw [upd_ne _ _ _ e] at hy hb; exact h.oo k hy b hb

/-- Memory changes in blocks of ONE node (or in new ones); the node keeps its header. -/
theorem StRelAt.turn (h : StRelAt c st a w I hdr F) {nm : Nat} {x x' : AV} {v : Value} {B' : List Nat} {w' : World} (hx : st.o nm = some x) (hv : hdr nm = some v)
    (hr : Rep w' I hdr x' B' v) (hw : ∀ b, b < w.heap.size → b ∉ F nm → w'.heap[b]? = w.heap[b]?) (hsz : w.heap.size ≤ w'.heap.size) (ho : w'.os = w.os) (ht : w'.tape = w.tape) (hu : OutOk w' w)
    (hB : B'.Nodup) (hBsub : ∀ b, b ∈ B' → b ∈ F nm ∨ w.heap.size ≤ b) : StRelAt c (st.node nm (some x')) a w' I hdr (upd F nm B') :=
  h.turn2 hx hv hr hw hsz ho ht hu hB fun b hb => (hBsub b hb).imp id .inl

end

end Go.AM
