/-
  The abstract machine: its operations, and that each is what the model's operation does.
-/
import Derived.Test.YtnimmbjbinpajaaDoorAmState
import Derived.Lib.AppendZeros
import Derived.Laws.AppendOwn
import Derived.Laws.MakeOwn
import Derived.Laws.Slices
import Derived.Laws.Small
import Derived.Laws.IdiomStrings
import Derived.Laws.IdiomCopy
import Derived.Lib.ConvBytes
import Derived.DataElems
import Derived.WalkKit
import Derived.Lib.SliceRun
set_option linter.unusedVariables false
set_option linter.unusedSimpArgs false
namespace Go.AM

/-! ### Types, as a program tells them -/
def tsize (P : Program) (t : TypeId) : Nat := ((P.info? t).map (·.size)).getD 0
def tbytes (P : Program) (t : TypeId) : Nat := ((P.info? t).map (·.bytes)).getD 0
def tagg (P : Program) (t : TypeId) : Bool := match P.underlying t with | some (.struct _) => true | some (.array _ _) => true | _ => false
def tok (P : Program) (t : TypeId) : Bool := (P.info? t).isSome && (P.underlying t).isSome
def tzero (P : Program) (t : TypeId) : Option Value := (P.info? t).bind (·.zero)
def telem (P : Program) (t : TypeId) : Option TypeId := match P.underlying t with | some (.slice e) => some e | _ => none
def tint (P : Program) (t : TypeId) : Option IntKind := match P.underlying t with | some (.int k) => some k | _ => none
def tstr (P : Program) (t : TypeId) : Bool := match P.underlying t with | some .string => true | _ => false
def tbool (P : Program) (t : TypeId) : Bool := match P.underlying t with | some .bool => true | _ => false
/-- The fields of a struct type: where each begins, its cells. -/
def tfields (P : Program) (t : TypeId) : Option (List (Nat × Nat)) := match P.underlying t with | some (.struct fs) => fs.toList.mapM (fun f => (P.info? f.type).map fun i => (f.offset, i.size)) | _ => none

theorem mapM_get {α β : Type} {g : α → Option β} : ∀ {l : List α} {r : List β}, l.mapM g = some r → ∀ {i : Nat} {y : β}, r[i]? = some y → ∃ x, l[i]? = some x ∧ g x = some y
  | [], r, h, i, y, hy => by simp at h; subst h; simp at hy
  | x :: l, r, h, i, y, hy => by
    simp only [List.mapM_cons, Option.bind_eq_bind, Option.pure_def] at h
    cases hg : g x with
    | none => simp [hg] at h
    | some z =>
      cases hr : l.mapM g with
      | none => simp [hg, hr] at h
      | some rest =>
        simp [hg, hr] at h
        subst h
        cases i with
        | zero => simp at hy; subst hy; exact ⟨x, rfl, hg⟩
        | succ i => simpa using mapM_get hr (by simpa using hy)

theorem telem_spec {P : Program} {t e : TypeId} (h : telem P t = some e) : P.underlying t = some (.slice e) := by
  unfold telem at h
  split at h
  · rename_i e' he; cases h; exact he
  · cases h

theorem tok_spec {P : Program} {t : TypeId} (h : tok P t = true) : ∃ i d, P.info? t = some i ∧ P.underlying t = some d := by
  simp only [tok, Bool.and_eq_true, Option.isSome_iff_exists] at h
  obtain ⟨⟨i, hi⟩, ⟨d, hd⟩⟩ := h
  exact ⟨i, d, hi, hd⟩

theorem tsize_info {P : Program} {t : TypeId} {i : TypeInfo} (h : P.info? t = some i) : tsize P t = i.size := by simp [tsize, h]
theorem tbytes_info {P : Program} {t : TypeId} {i : TypeInfo} (h : P.info? t = some i) : tbytes P t = i.bytes := by simp [tbytes, h]
theorem run_sizeOf' {P : Program} {t : TypeId} {i : TypeInfo} (h : P.info? t = some i) (w : World) : (sizeOf t).run P w = .ok (tsize P t) w := by
  simp [sizeOf, typeInfo, h, tsize]
theorem run_isAgg' {P : Program} {t : TypeId} {d : TypeDesc} (h : P.underlying t = some d) (w : World) : (isAgg t).run P w = .ok (tagg P t) w := by
  unfold isAgg tagg
  simp only [Sem.run_bind, run_underlying h, Result.andThen, h]
  cases d <;> rfl

/-! ### Effects -/
structure Eff where
  val : AV
  news : List (Nat × AV) := []
  ws : List (Nat × Option AV) := []
  rd : Bool := false

def St.ws (st : St) : List (Nat × Option AV) → St
  | [] => st
  | p :: l => (st.node p.1 p.2).ws l

def St.nws (st : St) : List (Nat × AV) → St
  | [] => st
  | p :: l => (st.node p.1 (some p.2)).nws l

def St.app (st : St) (dst : Option Nat) (e : Eff) : St := ((st.ws e.ws).nws e.news).put dst e.val

/-- New nodes' names are nobody's. -/
def newsOk (st : St) : List (Nat × AV) → Prop
  | [] => True
  | p :: l => st.free p.1 ∧ st.o p.1 = none ∧ noR p.1 p.2 = true ∧ newsOk (st.node p.1 (some p.2)) l

/-- The effect may be had: the temporary exists; new nodes' names are nobody's. -/
def Eff.ok (e : Eff) (st : St) (dst : Option Nat) : Prop := (∀ d, dst = some d → d < st.n) ∧ newsOk (st.ws e.ws) e.news

theorem ws_n (st : St) (l : List (Nat × Option AV)) : (st.ws l).n = st.n := by
  induction l generalizing st with
  | nil => rfl
  | cons p l ih => simp only [St.ws, ih]; rfl

def ofVal : Value → AV
  | .agg cs => .agg (cs.toList.map .val)
  | v => .val v

def opv (st : St) : Operand → AV
  | .tmp t => st.s t
  | .const v => ofVal v
  | .global g => .val (.pointer (some ⟨g, 0, none⟩))
  | .func f => .fn f []

theorem repL_val (w : World) (I : Nat → Prop) (hdr : Nat → Option Value) : ∀ l : List Value, RepL w I hdr (l.map .val) [] l
  | [] => by simp [RepL]
  | v :: l => by
    simp only [List.map_cons, RepL, Rep]
    exact ⟨[], [], v, l, rfl, rfl, ⟨rfl, rfl⟩, repL_val w I hdr l⟩

theorem rep_ofVal (w : World) (I : Nat → Prop) (hdr : Nat → Option Value) (v : Value) : Rep w I hdr (ofVal v) [] v := by
  unfold ofVal
  split
  · rename_i cs
    simp only [Rep]
    exact ⟨cs, rfl, repL_val w I hdr _⟩
  · simp [Rep]

/-! ### Lists of cells -/
theorem RepL.get {w : World} {I : Nat → Prop} {hdr : Nat → Option Value} : ∀ {l : List AV} {B : List Nat} {us : List Value}, RepL w I hdr l B us →
    ∀ {i : Nat} {x : AV}, l[i]? = some x → ∃ u B₁, us[i]? = some u ∧ Rep w I hdr x B₁ u ∧ ∀ b, b ∈ B₁ → b ∈ B
  | [], _, _, _, i, x, hx => by simp at hx
  | d :: ds, B, us, h, i, x, hx => by
    simp only [RepL] at h
    obtain ⟨B₁, B₂, v, vs', rfl, rfl, h1, h2⟩ := h
    cases i with
    | zero => simp at hx; subst hx; exact ⟨v, B₁, rfl, h1, fun b hb => by simp [hb]⟩
    | succ i =>
      obtain ⟨u, B', hu, hr, hB⟩ := RepL.get h2 (by simpa using hx)
      exact ⟨u, B', by simpa using hu, hr, fun b hb => by simp [hB b hb]⟩

theorem RepL.append {w : World} {I : Nat → Prop} {hdr : Nat → Option Value} : ∀ {l : List AV} {B : List Nat} {us : List Value} {l' : List AV} {B' : List Nat} {us' : List Value},
    RepL w I hdr l B us → RepL w I hdr l' B' us' → RepL w I hdr (l ++ l') (B ++ B') (us ++ us')
  | [], _, _, _, _, _, h, h' => by simp only [RepL] at h; rw [h.1, h.2]; exact h'
  | d :: ds, B, us, l', B', us', h, h' => by
    simp only [List.cons_append, RepL] at h ⊢
    obtain ⟨B₁, B₂, v, vs', rfl, rfl, h1, h2⟩ := h
    exact ⟨B₁, B₂ ++ B', v, vs' ++ us', by simp, by simp, h1, RepL.append h2 h'⟩

theorem RepL.split {w : World} {I : Nat → Prop} {hdr : Nat → Option Value} : ∀ {l : List AV} {l' : List AV} {B : List Nat} {us : List Value}, RepL w I hdr (l ++ l') B us →
    ∃ B₁ B₂, B = B₁ ++ B₂ ∧ RepL w I hdr l B₁ (us.take l.length) ∧ RepL w I hdr l' B₂ (us.drop l.length)
  | [], l', B, us, h => ⟨[], B, rfl, by simp [RepL], by simpa using h⟩
  | d :: ds, l', B, us, h => by
    simp only [List.cons_append, RepL] at h
    obtain ⟨B₁, B₂, v, vs', rfl, rfl, h1, h2⟩ := h
    obtain ⟨C₁, C₂, rfl, h3, h4⟩ := RepL.split h2
    refine ⟨B₁ ++ C₁, C₂, by simp, ?_, by simpa using h4⟩
    simp only [List.length_cons, List.take_succ_cons, RepL]
    exact ⟨B₁, C₁, v, _, rfl, rfl, h1, h3⟩

theorem RepL.cpy_nil {w : World} {I : Nat → Prop} {hdr : Nat → Option Value} : ∀ {l : List AV} {B : List Nat} {us : List Value}, l.all cpy = true → RepL w I hdr l B us → B = []
  | [], _, _, _, h => by simp only [RepL] at h; exact h.1
  | d :: ds, B, us, hc, h => by
    simp only [List.all_cons, Bool.and_eq_true] at hc
    simp only [RepL] at h
    obtain ⟨B₁, B₂, v, vs', rfl, rfl, h1, h2⟩ := h
    rw [AM.cpy_nil hc.1 h1, RepL.cpy_nil hc.2 h2]; rfl

/-- A window of cells that own nothing. -/
theorem RepL.window {w : World} {I : Nat → Prop} {hdr : Nat → Option Value} {l : List AV} {B : List Nat} {us : List Value} (h : RepL w I hdr l B us) (off k : Nat)
    (hc : ((l.drop off).take k).all cpy = true) : RepL w I hdr ((l.drop off).take k) [] ((us.drop off).take k) := by
  have hl := h.length
  have e1 : l = l.take off ++ l.drop off := (List.take_append_drop off l).symm
  have e2 : l.drop off = (l.drop off).take k ++ (l.drop off).drop k := (List.take_append_drop k _).symm
  rw [e1] at h
  obtain ⟨B₁, B₂, _, _, h2⟩ := h.split
  rw [e2] at h2
  obtain ⟨C₁, C₂, _, h3, _⟩ := h2.split
  have e := h3.cpy_nil hc
  subst e
  have hd : us.drop (l.take off).length = us.drop off := by
    by_cases ho : off ≤ l.length
    · rw [List.length_take_of_le ho]
    · rw [List.drop_eq_nil_of_le (by rw [List.length_take]; omega), List.drop_eq_nil_of_le (by omega)]
  have ht : (us.drop off).take ((l.drop off).take k).length = (us.drop off).take k := by
    by_cases ho : k ≤ (l.drop off).length
    · rw [List.length_take_of_le ho]
    · have : (us.drop off).length ≤ (l.drop off).length := by simp [hl]
      rw [List.take_of_length_le (by rw [List.length_take]; omega), List.take_of_length_le (by omega)]
  rw [hd, ht] at h3
  exact h3

/-- A part of cells that nobody writes. -/
theorem RepL.sub {w : World} {I : Nat → Prop} {hdr : Nat → Option Value} {l : List AV} {us : List Value} (h : RepL w I hdr l [] us) (off k : Nat) : RepL w I hdr ((l.drop off).take k) [] ((us.drop off).take k) := by
  have hl := h.length
  have nil : ∀ B₁ B₂ : List Nat, [] = B₁ ++ B₂ → B₁ = [] ∧ B₂ = [] := fun B₁ B₂ e => by simpa using e.symm
  have e1 : l = l.take off ++ l.drop off := (List.take_append_drop off l).symm
  have e2 : l.drop off = (l.drop off).take k ++ (l.drop off).drop k := (List.take_append_drop k _).symm
  rw [e1] at h
  obtain ⟨B₁, B₂, e, _, h2⟩ := h.split
  obtain ⟨rfl, rfl⟩ := nil _ _ e
  rw [e2] at h2
  obtain ⟨C₁, C₂, e, h3, _⟩ := h2.split
  obtain ⟨rfl, rfl⟩ := nil _ _ e
  have hd : us.drop (l.take off).length = us.drop off := by
    by_cases ho : off ≤ l.length
    · rw [List.length_take_of_le ho]
    · rw [List.drop_eq_nil_of_le (by rw [List.length_take]; omega), List.drop_eq_nil_of_le (by omega)]
  have ht : (us.drop off).take ((l.drop off).take k).length = (us.drop off).take k := by
    by_cases ho : k ≤ (l.drop off).length
    · rw [List.length_take_of_le ho]
    · have : (us.drop off).length ≤ (l.drop off).length := by simp [hl]
      rw [List.take_of_length_le (by rw [List.length_take]; omega), List.take_of_length_le (by omega)]
  rw [hd, ht] at h3
  exact h3

theorem CellsAt.window {w : World} {a : Addr} {us : List Value} (h : CellsAt w a us) (off k : Nat) : CellsAt w (a.add off) ((us.drop off).take k) := by
  intro i u hu
  rw [List.getElem?_take] at hu
  split at hu
  · rw [List.getElem?_drop] at hu
    rw [Addr.add_add]
    exact h _ _ hu
  · cases hu

theorem repL_nohdr_of_none {w : World} {I : Nat → Prop} (hdr : Nat → Option Value) {l : List AV} {B : List Nat} {us : List Value} (h : RepL w I (fun _ => none) l B us) : RepL w I hdr l B us :=
  RepL.nohdr hdr l B us (nrfL_of_none l B us h) h
theorem rep_nohdr_of_none {w : World} {I : Nat → Prop} (hdr : Nat → Option Value) {x : AV} {B : List Nat} {u : Value} (h : Rep w I (fun _ => none) x B u) : Rep w I hdr x B u :=
  Rep.nohdr hdr x B u (nrf_of_none x B u h) h

/-- A cell of its own, whatever it is. -/
def one : AV → Bool
  | .val v => v.oneCell'
  | .sl .. | .ip _ | .fn .. | .fb .. | .ref _ | .pt .. | .own .. | .box _ | .mp _ | .opw .. => true
  | _ => false

theorem one_cell {w : World} {I : Nat → Prop} {hdr : Nat → Option Value} (hh : ∀ nm h, hdr nm = some h → h.oneCell' = true) {x : AV} {B : List Nat} {v : Value} (hx : one x = true) (h : Rep w I hdr x B v) : v.oneCell' = true := by
  cases x <;> simp only [one, Bool.false_eq_true] at hx <;> simp only [Rep] at h
  · rw [h.2]; exact hx
  · rcases h.2 with ⟨rfl, _⟩ | ⟨a, n, c, us, rfl, _⟩ <;> rfl
  · obtain ⟨_, a, us, rfl, _⟩ := h; rfl
  · obtain ⟨_, cs, rfl, _⟩ := h; rfl
  · obtain ⟨_, cs, rfl, _⟩ := h; rfl
  · rcases h with ⟨rfl, _⟩ | ⟨b, n, c, C, ty, B', rfl, _⟩ <;> rfl
  · obtain ⟨b, C, ty, B', rfl, _⟩ := h; rfl
  · obtain ⟨b, ents, clock, B', rfl, _⟩ := h; rfl
  · obtain ⟨b, n, c, C, ty, B', rfl, _⟩ := h; rfl
  · exact hh _ _ h.2
  · obtain ⟨_, u, a, _, _, rfl⟩ := h; rfl

theorem cells_one {v : Value} (h : v.oneCell' = true) : v.cells = #[v] := by cases v <;> simp [Value.oneCell', Value.cells] at h ⊢

/-- The cells of a value that is laid down. -/
def cellsOf (x : AV) : Option (List AV) := match x with
  | .agg l => some l
  | x => if one x then some [x] else none

theorem cellsOf_spec {w : World} {I : Nat → Prop} {hdr : Nat → Option Value} (hh : ∀ nm h, hdr nm = some h → h.oneCell' = true) {x : AV} {l : List AV} {B : List Nat} {v : Value} (hx : cellsOf x = some l) (h : Rep w I hdr x B v) :
    RepL w I hdr l B v.cells.toList := by
  unfold cellsOf at hx
  split at hx
  · cases hx
    simp only [Rep] at h
    obtain ⟨cs, rfl, h⟩ := h
    exact h
  · split at hx
    · rename_i ho
      cases hx
      rw [cells_one (one_cell hh ho h)]
      simp only [RepL]
      exact ⟨B, [], v, [], by simp, rfl, h, rfl, rfl⟩
    · cases hx

/-! ### The operations -/
/-- A slice: its cells, and whether it is surely no nil; a reading of a node's says so. -/
def slNode (nm : Nat) : Option AV → Option (Nat × Bool × List AV × Option Nat)
  | some (.own sz nn l) => some (sz, nn, l, some nm)
  | _ => none
def slVal : Value → Option (Nat × Bool × List AV × Option Nat)
  | .slice none 0 0 => some (1, false, [], none)
  | _ => none
def slOf (st : St) : AV → Option (Nat × Bool × List AV × Option Nat)
  | .sl sz nn l => some (sz, nn, l, none)
  | .ref nm => slNode nm (st.o nm)
  | .val v => slVal v
  | _ => none

/-- The same, of a node that may lie open. -/
def slNode2 (nm : Nat) : Option AV → Option (Nat × Bool × List AV × Option Nat)
  | some (.own sz nn l) => some (sz, nn, l, some nm)
  | some (.opw sz l) => some (sz, true, l, some nm)
  | _ => none
def slOf2 (st : St) : AV → Option (Nat × Bool × List AV × Option Nat)
  | .ref nm => slNode2 nm (st.o nm)
  | x => slOf st x
/-- The names that stand in the cells of a value that is laid down. -/
def nmB1 : AV → List Nat
  | .ref nm => [nm]
  | _ => []
def nmC (x : AV) : List Nat := match cellsOf x with
  | some l => l.flatMap nmB1
  | none => []
def rsv1 (o : Nat → Option AV) : AV → AV
  | .ref nm => (o nm).getD (.ref nm)
  | x => x

def aload (P : Program) (t : TypeId) (l : List AV) (off : Nat) (rd : Bool) (K : Eff → Prop) : Prop :=
  tok P t = true ∧ if tagg P t = true then off + tsize P t ≤ l.length ∧ ((l.drop off).take (tsize P t)).all cpy = true ∧ K { val := .agg ((l.drop off).take (tsize P t)), rd }
  else off < l.length ∧ cpy (l.getD off .junk) = true ∧ K { val := l.getD off .junk, rd }

def loadOp (P : Program) (st : St) (t : TypeId) (x : AV) (K : Eff → Prop) : Prop := match x with
  | .ip l => aload P t l 0 false K
  | .pt nm off => match st.o nm with
    | some (.box l) => aload P t l off true K
    | some (.own _ _ l) => aload P t l off true K
    | some (.opw _ l) => aload P t l off true K
    | _ => False
  | _ => False

def pickOp (c x y : AV) (K : Eff → Prop) : Prop := match c with
  | .val (.bool t) => match x, y with
    | .val (.bool p), .val (.bool q) => K { val := .val (.bool (bif t then p else q)) }
    | x, y => K { val := bif t then x else y }
  | _ => False

def boxOp (fz : Nat → Bool) (dst : Option Nat) (l : List AV) (K : Eff → Prop) : Prop := match dst with
  | some d => if fz d then nrfL l = true ∧ K { val := .ip l } else K { val := .pt d 0, news := [(d, .box l)] }
  | none => False

def fieldAddrOp (P : Program) (s : TypeId) (x : AV) (f : Nat) (K : Eff → Prop) : Prop := match tfields P s with
  | some fs => match fs[f]? with
    | some (off, fsz) => 0 < fsz ∧ match x with
      | .pt nm o => K { val := .pt nm (o + off) }
      | .ip l => K { val := .ip ((l.drop off).take fsz) }
      | _ => False
    | none => False
  | none => False

/-- A pointer that surely is no nil. -/
def nilOp (x : AV) (K : Eff → Prop) : Prop := match x with
  | .pt nm o => K { val := .pt nm o }
  | .ip l => K { val := .ip l }
  | _ => False

/-- A table that lies where nobody writes. -/
def gtab (P : Program) (g : Nat) : Option (List Value) := tabList.findSome? fun p => if P.globalNamed p.1 = some g then some p.2 else none
def tarr (P : Program) (t : TypeId) : Option (Nat × TypeId) := match P.underlying t with
  | some (.array n e) => some (n, e)
  | _ => none
/-- What a table holds at a place. -/
def tabAt (tab : List Value) (i : Int) : Value := tab.getD i.toNat (.int .u8 0)
def tabIx (P : Program) (t : TypeId) (x : AV) (i : Int) (K : Eff → Prop) : Prop := match x, tarr P t with
  | .val (.pointer (some ⟨g, 0, none⟩)), some (n, e) => match gtab P g with
    | some tab => tok P e = true ∧ tsize P e = 1 ∧ 2 ≤ n ∧ 0 ≤ i ∧ i < n ∧ n ≤ tab.length ∧ K { val := .ip [.val (tabAt tab i)] }
    | none => False
  | _, _ => False

/-- An element of a slice's end; its length. -/
def sfxIx (P : Program) (st : St) (e : TypeId) (x : AV) (i : Int) (K : Eff → Prop) : Prop := match x with
  | .sfx nm off => (match st.o nm with
    | some (.own sz _ l) => tok P e = true ∧ tsize P e = 1 ∧ sz = 1 ∧ 0 ≤ i ∧ off + i.toNat < l.length ∧ K { val := .pt nm (off + i.toNat), rd := true }
    | _ => False)
  | _ => False
def sfxLen (st : St) (x : AV) (K : Eff → Prop) : Prop := match x with
  | .sfx nm off => (match st.o nm with
    | some (.own sz _ l) => sz = 1 ∧ K { val := .val (.int .i64 (l.length - off : Nat)), rd := true }
    | _ => False)
  | _ => False
def indexAddrOp (P : Program) (st : St) (t : TypeId) (x ix : AV) (K : Eff → Prop) : Prop := match ix, telem P t with
  | .val (.int _ i), some e => match slOf2 st x with
    | some (sz, _, l, nm) => tok P e = true ∧ tsize P e = sz ∧ 0 < sz ∧ 0 ≤ i ∧ (i.toNat + 1) * sz ≤ l.length ∧ (match nm with
      | none => K { val := .ip ((l.drop (i.toNat * sz)).take sz) }
      | some nm => K { val := .pt nm (i.toNat * sz), rd := true })
    | none => sfxIx P st e x i K
  | .val (.int _ i), none => tabIx P t x i K
  | _, _ => False

def mapT (P : Program) (t : TypeId) : Option (TypeId × TypeId) := match P.underlying t with
  | some (.map k e) => some (k, e)
  | _ => none
/-- The length of a map. -/
def mapLen (P : Program) (st : St) (t : TypeId) (x : AV) (K : Eff → Prop) : Prop := match x, mapT P t with
  | .ref nm, some _ => (match st.o nm with
    | some (.mp es) => K { val := .val (.int .i64 es.length), rd := true }
    | _ => False)
  | _, _ => False
def lenOp (P : Program) (st : St) (t : TypeId) (x : AV) (K : Eff → Prop) : Prop := match x with
  | .val (.string s) => tstr P t = true ∧ K { val := .val (.int .i64 s.size) }
  | x => match slOf2 st x, telem P t with
    | some (sz, _, l, _), some _ => 0 < sz ∧ K { val := .val (.int .i64 (l.length / sz : Nat)), rd := true }
    | none, some _ => sfxLen st x K
    | _, none => mapLen P st t x K

def extractOp (x : AV) (i : Nat) (K : Eff → Prop) : Prop := match x with
  | .tup l => match l[i]? with
    | some y => K { val := y }
    | none => False
  | _ => False

def ibits (op : BinOp) (k : IntKind) (x y : Int) : Int :=
  let a := BitVec.ofInt k.bits x
  let b := BitVec.ofInt k.bits y
  match op with
  | .and => k.wrap (a &&& b).toNat
  | .or => k.wrap (a ||| b).toNat
  | .xor => k.wrap (a ^^^ b).toNat
  | _ => k.wrap (a &&& ~~~b).toNat

def intOp (op : BinOp) (k : IntKind) (a b : Int) (K : Value → Prop) : Prop := match op with
  | .add => K (.int k (k.wrap (a + b)))
  | .sub => K (.int k (k.wrap (a - b)))
  | .mul => K (.int k (k.wrap (a * b)))
  | .quo => b ≠ 0 ∧ K (.int k (k.wrap (a.tdiv b)))
  | .rem => b ≠ 0 ∧ K (.int k (a.tmod b))
  | .and => K (.int k (ibits .and k a b))
  | .or => K (.int k (ibits .or k a b))
  | .xor => K (.int k (ibits .xor k a b))
  | .andNot => K (.int k (ibits .andNot k a b))
  | .eql => K (.bool (a == b))
  | .neq => K (.bool (a != b))
  | .lss => K (.bool (a < b))
  | .leq => K (.bool (a ≤ b))
  | .gtr => K (.bool (a > b))
  | .geq => K (.bool (a ≥ b))
  | _ => False

def pbin (P : Program) (op : BinOp) (xT : TypeId) (x y : Value) (K : Value → Prop) : Prop := match x, y with
  | .int k a, .int k' b => match op with
    | .shl => 0 ≤ b ∧ K (.int k (k.wrap (a * 2 ^ min b.toNat k.bits)))
    | .shr => 0 ≤ b ∧ K (.int k (a.fdiv (2 ^ min b.toNat k.bits)))
    | op => k = k' ∧ intOp op k a b K
  | .bool a, .bool b => tbool P xT = true ∧ match op with
    | .eql => K (.bool (a == b))
    | .neq => K (.bool (!(a == b)))
    | _ => False
  | .string a, .string b => match op with
    | .add => a.size + b.size ≤ 9223372036854775807 ∧ K (.string (a ++ b))
    | .eql => K (.bool (a.toList == b.toList))
    | .neq => K (.bool !(a.toList == b.toList))
    | .lss => K (.bool (Op.bytesLess a.toList b.toList))
    | _ => False
  | _, _ => False

def binOp' (P : Program) (st : St) (op : BinOp) (xT : TypeId) (x y : AV) (K : Eff → Prop) : Prop := match x, y with
  | .val a, .val b => pbin P op xT a b fun v => K { val := .val v }
  | _, _ => False

/-- A slice against nil. -/
def nilK (op : BinOp) (x : AV) (s : Option (Nat × Bool × List AV × Option Nat)) (K : Eff → Prop) : Prop := match op with
  | .eql => (match x with
    | .val (.slice none _ _) => K { val := .val (.bool true) }
    | _ => match s with
      | some (_, nn, l, _) => ((!nn && l.isEmpty) = true → K { val := .val (.bool true) }) ∧ K { val := .val (.bool false) }
      | none => False)
  | .neq => (match x with
    | .val (.slice none _ _) => K { val := .val (.bool false) }
    | _ => match s with
      | some (_, nn, l, _) => ((!nn && l.isEmpty) = true → K { val := .val (.bool false) }) ∧ K { val := .val (.bool true) }
      | none => False)
  | _ => False
def nilCmp (P : Program) (st : St) (op : BinOp) (xT : TypeId) (x : AV) (K : Eff → Prop) : Prop := (telem P xT).isSome = true ∧ nilK op x (slOf st x) K

def cmpOp (P : Program) (st : St) (op : BinOp) (xT : TypeId) (x y : AV) (K : Eff → Prop) : Prop := match y with
  | .val (.slice none _ _) => nilCmp P st op xT x K
  | y => binOp' P st op xT x y K

def unOp' (op : UnOp) (x : AV) (K : Eff → Prop) : Prop := match op, x with
  | .not, .val (.bool b) => K { val := .val (.bool !b) }
  | .neg, .val (.int k n) => K { val := .val (.int k (k.wrap (0 - n))) }
  | _, _ => False

/-- Cells that hold bytes. -/
def byteL : List AV → Option (List UInt8)
  | [] => some []
  | .val (.int .u8 n) :: l => if 0 ≤ n ∧ n < 256 then (byteL l).map (UInt8.ofNat n.toNat :: ·) else none
  | _ => none
/-- The text of a slice of bytes. -/
def convB (P : Program) (st : St) (src dst : TypeId) (x : AV) (K : Eff → Prop) : Prop := match slOf st x, telem P src with
  | some (sz, _, l, _), some e => sz = 1 ∧ tint P e = some .u8 ∧ tstr P dst = true ∧ (match byteL l with
    | some bs => K { val := .val (.string ⟨bs.toArray⟩), rd := true }
    | none => False)
  | _, _ => False
/-- The bytes of a text, as a new slice. -/
def convS (P : Program) (dst : Option Nat) (t t' : TypeId) (s : ByteArray) (K : Eff → Prop) : Prop := match dst, telem P t' with
  | some d, some e => tok P t = true ∧ tint P e = some .u8 ∧ K { val := .ref d, news := [(d, .own 1 true (s.data.toList.map fun b => .val (.int .u8 b.toNat)))] }
  | _, _ => False
def convOp (P : Program) (st : St) (d : Option Nat) (src dst : TypeId) (x : AV) (K : Eff → Prop) : Prop := match x with
  | .val (.string s) => convS P d src dst s K
  | .val (.int _ n) => tok P src = true ∧ match tint P dst with
    | some k => K { val := .val (.int k (k.wrap n)) }
    | none => False
  | x => convB P st src dst x K

def makeFuncOp (f : Fn) (first caps : List AV) (K : Eff → Prop) : Prop := match f with
  | .func f => match first with
    | [] => (bif nrfL caps then K { val := .fn f caps } else K { val := .fno f caps })
    | x :: xs => caps.isEmpty = true ∧ nrfL (x :: xs) = true ∧ K { val := .fb f (x :: xs) }
  | _ => False

/-- Cells for the parts of a literal. -/
def fillA (place : Nat → Option (Nat × Nat)) (cells : List AV) : List (Nat × AV) → Option (List AV)
  | [] => some cells
  | (i, x) :: rest => match place i, cellsOf x with
    | some (off, size), some l => if l.length = size ∧ off + size ≤ cells.length then fillA place (cells.take off ++ l ++ cells.drop (off + size)) rest else none
    | _, _ => none

def buildOp (P : Program) (t : TypeId) (parts : List (Nat × AV)) (K : Eff → Prop) : Prop := match tfields P t, tzero P t with
  | some fs, some z => match fillA (fun i => fs[i]?) (z.cells.toList.map .val) parts with
    | some l => K { val := .agg l }
    | none => False
  | _, _ => False

/-- A slice that takes over what its one element owns. -/
def moveSliceOp (P : Program) (st : St) (d : Nat) (e : TypeId) (len : Nat) (parts : List (Nat × AV)) (K : Eff → Prop) : Prop := match parts, tzero P e with
  | [(0, x)], some z => match cellsOf x with
    | some l => len = 1 ∧ tok P e = true ∧ 0 < tsize P e ∧ z.cells.size = tsize P e ∧ tsize P e ≤ 16777216 ∧ l.length = tsize P e ∧ (l.flatMap nmB1).Nodup ∧ nrfL (l.map (rsv1 st.o)) = true ∧
      K { val := .ref d, news := [(d, .own (tsize P e) true (l.map (rsv1 st.o)))], ws := (l.flatMap nmB1).map fun nm => (nm, none), rd := true }
    | none => False
  | _, _ => False
def buildSliceOp (P : Program) (st : St) (dst : Option Nat) (t : TypeId) (len : Nat) (parts : List (Nat × AV)) (K : Eff → Prop) : Prop := match dst, telem P t with
  | some d, some e => if parts.flatMap (fun p => nmC p.2) ≠ [] then moveSliceOp P st d e len parts K else match tzero P e with
    | some z => tok P e = true ∧ 0 < tsize P e ∧ z.cells.size = tsize P e ∧ len * tsize P e ≤ 16777216 ∧
      match fillA (fun i => some (i * tsize P e, tsize P e)) ((List.replicate len (z.cells.toList.map AV.val)).flatten) parts with
      | some l => nrfL l = true ∧ K { val := .ref d, news := [(d, .own (tsize P e) true l)] }
      | none => False
    | none => False
  | _, _ => False

/-- A slice that nobody will write. -/
def buildSliceF (P : Program) (dst : Option Nat) (t : TypeId) (len : Nat) (parts : List (Nat × AV)) (K : Eff → Prop) : Prop := match dst, telem P t with
  | some _, some e => match tzero P e with
    | some z => tok P e = true ∧ 0 < tsize P e ∧ z.cells.size = tsize P e ∧ len * tsize P e ≤ 16777216 ∧
      match fillA (fun i => some (i * tsize P e, tsize P e)) ((List.replicate len (z.cells.toList.map AV.val)).flatten) parts with
      | some l => nrfL l = true ∧ K { val := .sl (tsize P e) true l }
      | none => False
    | none => False
  | _, _ => False

/-- A slice whose one element's rows stay open under their names. -/
def buildSliceW (P : Program) (dst : Option Nat) (t : TypeId) (len : Nat) (parts : List (Nat × AV)) (K : Eff → Prop) : Prop := match dst, telem P t with
  | some d, some e => match parts, tzero P e with
    | [(0, x)], some z => match cellsOf x with
      | some l => len = 1 ∧ tok P e = true ∧ 0 < tsize P e ∧ z.cells.size = tsize P e ∧ tsize P e ≤ 16777216 ∧ l.length = tsize P e ∧ K { val := .ref d, news := [(d, .opw (tsize P e) l)] }
      | none => False
    | _, _ => False
  | _, _ => False

def storeOp (P : Program) (st : St) (t : TypeId) (x y : AV) (K : Eff → Prop) : Prop := match x, cellsOf y with
  | .pt nm off, some l => tok P t = true ∧ l.length = tsize P t ∧ l.all one = true ∧ (match st.o nm with
    | some (.box m) => off + l.length ≤ m.length ∧ K { val := .junk, ws := [(nm, some (.box (m.take off ++ l ++ m.drop (off + l.length))))], rd := true }
    | some (.own sz nn m) => off + l.length ≤ m.length ∧ (if nrfL l = true then K { val := .junk, ws := [(nm, some (.own sz nn (m.take off ++ l ++ m.drop (off + l.length))))], rd := true }
      else (l.flatMap nmB1).Nodup ∧ nm ∉ l.flatMap nmB1 ∧ nrfL (l.map (rsv1 st.o)) = true ∧
        K { val := .junk, ws := (l.flatMap nmB1).map (fun k => (k, none)) ++ [(nm, some (.own sz nn (m.take off ++ l.map (rsv1 st.o) ++ m.drop (off + l.length))))], rd := true })
    | _ => False)
  | _, _ => False

/-! Maps whose keys are numbers, strings or truth values. -/
def plainKey : TypeDesc → Bool
  | .int _ | .string | .bool => true
  | _ => false
/-- What a map holds for a key. -/
def mpFind (d : TypeDesc) (key : Value) : List (Value × AV) → Option (Option AV)
  | [] => some none
  | (k, v) :: es => match Instr.sameNow d key k with
    | some true => some (some v)
    | some false => mpFind d key es
    | none => none
def mpPut (d : TypeDesc) (key : Value) (x : AV) : List (Value × AV) → Option (List (Value × AV))
  | [] => some [(key, x)]
  | (k, v) :: es => match Instr.sameNow d key k with
    | some true => some ((key, x) :: es)
    | some false => (mpPut d key x es).map fun r => (k, v) :: r
    | none => none
def makeMapOp (P : Program) (dst : Option Nat) (t : TypeId) (r : Option AV) (K : Eff → Prop) : Prop := match dst with
  | some d => (match r with
    | none => K { val := .ref d, news := [(d, .mp [])] }
    | some (.val (.int _ _)) => (mapT P t).isSome = true ∧ K { val := .ref d, news := [(d, .mp [])] }
    | _ => False)
  | none => False
def lookupOp (P : Program) (st : St) (t : TypeId) (x ix : AV) (ok : Bool) (K : Eff → Prop) : Prop := match x, ix, mapT P t with
  | .ref nm, .val key, some (kt, et) => (match st.o nm, P.underlying kt, tzero P et with
    | some (.mp es), some d, some z => plainKey d = true ∧ (match mpFind d key es with
      | some (some v) => cpy v = true ∧ K { val := bif ok then .tup [v, .val (.bool true)] else v, rd := true }
      | some none => K { val := bif ok then .tup [.val z, .val (.bool false)] else .val z, rd := true }
      | none => False)
    | _, _, _ => False)
  | _, _, _ => False
def mapUpdateOp (P : Program) (st : St) (t : TypeId) (x key y : AV) (K : Eff → Prop) : Prop := match x, key, mapT P t with
  | .ref nm, .val key, some (kt, _) => (match st.o nm, P.underlying kt with
    | some (.mp es), some d => plainKey d = true ∧ nrf y = true ∧ (match mpPut d key y es with
      | some es' => K { val := .junk, ws := [(nm, some (.mp es'))], rd := true }
      | none => False)
    | _, _ => False)
  | _, _, _ => False

def makeSliceOp (P : Program) (dst : Option Nat) (t : TypeId) (x y : AV) (K : Eff → Prop) : Prop := match dst, telem P t with
  | some d, some e => match tzero P e, x, y with
    | some z, .val (.int _ l), .val (.int _ c) => tok P e = true ∧ 0 < tsize P e ∧ z.cells.size = tsize P e ∧ 0 ≤ l ∧ l ≤ c ∧ (tbytes P e : Int) * c ≤ 281474976710656 ∧ c ≤ 9223372036854775807 ∧
      K { val := .ref d, news := [(d, .own (tsize P e) true ((List.replicate l.toNat (z.cells.toList.map AV.val)).flatten))] }
    | _, _, _ => False
  | _, _ => False

def bnd (n : Nat) (dflt : Nat) : Option AV → Option Int
  | none => some dflt
  | some (.val (.int _ i)) => some i
  | _ => none

def sliceOp (P : Program) (st : St) (t : TypeId) (x : AV) (lo hi : Option AV) (K : Eff → Prop) : Prop := match x with
  | .val (.string s) => tstr P t = true ∧ (match bnd 0 0 lo, bnd 0 s.size hi with
    | some i, some j => 0 ≤ i ∧ i ≤ j ∧ j ≤ s.size ∧ K { val := .val (.string (s.extract i.toNat j.toNat)) }
    | _, _ => False)
  | .sl sz nn l => (match telem P t with
    | some e => tok P e = true ∧ tsize P e = sz ∧ 0 < sz ∧ (match bnd 0 0 lo, bnd 0 (l.length / sz) hi with
      | some i, some j => 0 ≤ i ∧ i ≤ j ∧ j ≤ (l.length / sz : Nat) ∧ K { val := .sl sz nn ((l.drop (i.toNat * sz)).take ((j.toNat - i.toNat) * sz)) }
      | _, _ => False)
    | none => False)
  | _ => False

/-- A slice cut behind its first elements; a nil slice. -/
def sliceOp2 (P : Program) (st : St) (dst : Option Nat) (t : TypeId) (x : AV) (lo hi : Option AV) (K : Eff → Prop) : Prop := match x with
  | .ref nm => (match dst, st.o nm, telem P t, lo, hi with
    | some d, some (.own sz nn l), some e, none, some (.val (.int _ j)) => tok P e = true ∧ tsize P e = sz ∧ 0 < sz ∧ 0 ≤ j ∧ j ≤ (l.length / sz : Nat) ∧
        K { val := .ref d, news := [(d, .own sz nn (l.take (j.toNat * sz)))], ws := [(nm, none)], rd := true }
    | some _, some (.own sz nn l), some e, some (.val (.int _ i)), none => tok P e = true ∧ tsize P e = 1 ∧ sz = 1 ∧ 0 ≤ i ∧ i < (l.length : Int) ∧ K { val := .sfx nm i.toNat, rd := true }
    | _, _, _, _, _ => False)
  | .val (.slice none 0 0) => (match telem P t, lo, hi with
    | some e, none, some (.val (.int _ 0)) => tok P e = true ∧ K { val := .val (.slice none 0 0) }
    | _, _, _ => False)
  | x => sliceOp P st t x lo hi K

/-- The first elements of an own slice. -/
def slicePfx (P : Program) (st : St) (t : TypeId) (x : AV) (lo hi : Option AV) (K : Eff → Prop) : Prop := match x, lo, hi with
  | .ref nm, none, some (.val (.int _ j)) => (match st.o nm, telem P t with
    | some (.own 1 true l), some e => tok P e = true ∧ tsize P e = 1 ∧ 0 ≤ j ∧ j ≤ (l.length : Int) ∧ K { val := .pfx nm j.toNat, rd := true }
    | _, _ => False)
  | _, _, _ => False

/-- The lesser of two numbers. -/
def minOp (x y : AV) (K : Eff → Prop) : Prop := match x, y with
  | .val (.int k a), .val (.int _ b) => K { val := .val (.int k (if b < a then b else a)) }
  | _, _ => False
def capOp (P : Program) (t : TypeId) (x : AV) (K : Eff → Prop) : Prop := match x, telem P t with
  | .val (.slice none 0 0), some _ => K { val := .val (.int .i64 0) }
  | _, _ => False

def indexOp (P : Program) (t : TypeId) (x ix : AV) (K : Eff → Prop) : Prop := match x, ix with
  | .val (.string s), .val (.int _ i) => tstr P t = true ∧ 0 ≤ i ∧ i < s.size ∧ K { val := .val (.int .u8 (s.toList.getD i.toNat 0).toNat) }
  | _, _ => False

/-- The names of a slice that is handed to append: they are used up. -/
def used : Option Nat → List (Nat × Option AV)
  | some nm => [(nm, none)]
  | none => []

/-- A slice that may be appended to: nil, or a node. -/
def appOld (st : St) : AV → Option (Nat × Bool × List AV × Option Nat)
  | .ref nm => slNode nm (st.o nm)
  | .val v => slVal v
  | _ => none

/-- Zeros behind nil. -/
def appendZ (P : Program) (d : Nat) (e t' : TypeId) (x y : AV) (K : Eff → Prop) : Prop := match x, y, tzero P e with
  | .val (.slice none 0 0), .val (.int _ n), some z => (tint P t').isSome = true ∧ tok P e = true ∧ 0 < tsize P e ∧ z.cells.size = tsize P e ∧ 0 < n ∧ n ≤ 9223372036854775807 ∧ n.toNat * tbytes P e ≤ 281474976710656 ∧
      K { val := .ref d, news := [(d, .own (tsize P e) true ((List.replicate n.toNat (z.cells.toList.map AV.val)).flatten))] }
  | _, _, _ => False

/-- A node some of whose rows lie open. -/
def opwOf (st : St) : AV → Option (Nat × Nat × List AV)
  | .ref nm => (match st.o nm with
    | some (.opw sz l) => some (nm, sz, l)
    | _ => none)
  | _ => none
/-- A node that is surely no nil slice. -/
def appOldW (st : St) : AV → Option (Nat × Nat × List AV)
  | .ref nm => (match st.o nm with
    | some (.opw sz l) => some (nm, sz, l)
    | some (.own sz true l) => some (nm, sz, l)
    | _ => none)
  | _ => none
/-- Open rows are appended. -/
def appendW (P : Program) (st : St) (d : Nat) (e t t' : TypeId) (x : AV) (k' sz' : Nat) (l' : List AV) (K : Eff → Prop) : Prop := match tzero P e, appOldW st x with
  | some z, some (k, sz, l) => t = t' ∧ tok P e = true ∧ 0 < tsize P e ∧ z.cells.size = tsize P e ∧ tsize P e = sz ∧ tsize P e = sz' ∧ l'.all one = true ∧ k ≠ k' ∧
      (l.length / tsize P e + l'.length / tsize P e) * tbytes P e ≤ 140737488355328 ∧ (l.length / tsize P e + l'.length / tsize P e) ≤ 4611686018427387904 ∧
      K { val := .ref d, news := [(d, .opw (tsize P e) (l ++ l'))], ws := [(k, none), (k', none)], rd := true }
  | _, _ => False

def appendOp (P : Program) (st : St) (dst : Option Nat) (t t' : TypeId) (x y : AV) (K : Eff → Prop) : Prop := match dst, telem P t with
  | some d, some e => match opwOf st y with
    | some (k', sz', l') => appendW P st d e t t' x k' sz' l' K
    | none => match tzero P e, appOld st x, slOf st y with
    | some z, some (sz, nn, l, nm), some (sz', _, l', nm') => t = t' ∧ tok P e = true ∧ 0 < tsize P e ∧ z.cells.size = tsize P e ∧ (nm = none ∨ tsize P e = sz) ∧ (l' = [] ∨ tsize P e = sz') ∧ 0 < sz' ∧ l'.all one = true ∧ (nm = none ∨ nm ≠ nm') ∧
      (l.length / tsize P e + l'.length / tsize P e) * tbytes P e ≤ 140737488355328 ∧ (l.length / tsize P e + l'.length / tsize P e) ≤ 4611686018427387904 ∧
      K { val := .ref d, news := [(d, .own (tsize P e) (nn && nm.isSome) (l ++ l'))], ws := used nm ++ used nm', rd := true }
    | _, _, _ => appendZ P d e t' x y K
  | _, _ => False

/-- A slice that is appended to, and that nobody writes from then on. -/
def appendOpF (P : Program) (st : St) (dst : Option Nat) (t t' : TypeId) (x y : AV) (K : Eff → Prop) : Prop := match dst, telem P t with
  | some _, some e => match tzero P e, appOld st x, slOf st y with
    | some z, some (sz, nn, l, nm), some (sz', _, l', nm') => t = t' ∧ tok P e = true ∧ 0 < tsize P e ∧ z.cells.size = tsize P e ∧ (nm = none ∨ tsize P e = sz) ∧ (l' = [] ∨ tsize P e = sz') ∧ 0 < sz' ∧ l'.all one = true ∧ (nm = none ∨ nm ≠ nm') ∧
      (l.length / tsize P e + l'.length / tsize P e) * tbytes P e ≤ 140737488355328 ∧ (l.length / tsize P e + l'.length / tsize P e) ≤ 4611686018427387904 ∧
      K { val := .sl (tsize P e) (nn && nm.isSome) (viewL (l ++ l')), ws := used nm ++ used nm', rd := true }
    | _, _, _ => False
  | _, _ => False

/-- Cells that own nothing. -/
def nob : AV → Bool
  | .val _ => true
  | .sl .. => true
  | _ => false
/-- What is left of a slice of numbers is filled with zeros. -/
def clearOp (P : Program) (st : St) (t : TypeId) (x : AV) (K : Eff → Prop) : Prop := match x, telem P t with
  | .sfx nm i, some e => (match st.o nm, tzero P e with
    | some (.own 1 nn l), some (.int k z) => l.all nob = true ∧ K { val := .tup [], ws := [(nm, some (.own 1 nn (l.take i ++ List.replicate (l.length - i) (.val (.int k z)))))], rd := true }
    | some (.own 1 nn l), some (.slice none 0 0) => l.all nob = true ∧ K { val := .tup [], ws := [(nm, some (.own 1 nn (l.take i ++ List.replicate (l.length - i) (.val (.slice none 0 0)))))], rd := true }
    | _, _ => False)
  | _, _ => False

/-- Plain cells. -/
def isV : AV → Bool
  | .val v => v.oneCell'
  | _ => false
/-- `copy` into an own slice: of its own first elements, or of a slice that nobody writes. -/
def copyOp (P : Program) (st : St) (t : TypeId) (x y : AV) (K : Eff → Prop) : Prop := match x, y, telem P t with
  | .sfx nm i, .pfx nm' k, some e => (match st.o nm with
    | some (.own 1 nn l) => nm = nm' ∧ tok P e = true ∧ tsize P e = 1 ∧ l.all isV = true ∧
        K { val := .val (.int .i64 ((min k (l.length - i) : Nat) : Int)), ws := [(nm, some (.own 1 nn (l.take i ++ l.take (min k (l.length - i)) ++ l.drop (i + min k (l.length - i)))))], rd := true }
    | _ => False)
  | .ref nm, .sl 1 _ l', some e => (match st.o nm with
    | some (.own 1 true l) => tok P e = true ∧ tsize P e = 1 ∧ l.all isV = true ∧ l'.all isV = true ∧ 0 < l'.length ∧
        K { val := .val (.int .i64 ((min l'.length l.length : Nat) : Int)), ws := [(nm, some (.own 1 true (l'.take (min l'.length l.length) ++ l.drop (min l'.length l.length))))], rd := true }
    | _ => False)
  | _, _, _ => False

/-- All that is no call of a Go function. -/
def aop (P : Program) (fz : Nat → Bool) (o : Oper) (st : St) (K : Eff → Prop) : Prop :=
  match o.op with
  | .move x => K { val := opv st x }
  | .assign x => K { val := opv st x }
  | .pick c x y => pickOp (opv st c) (opv st x) (opv st y) K
  | .box _ x => match cellsOf (opv st x) with
    | some l => boxOp fz o.dst l K
    | none => False
  | .alloc t => match tzero P t with
    | some v => boxOp fz o.dst (v.cells.toList.map .val) K
    | none => False
  | .load t x => loadOp P st t (opv st x) K
  | .fieldAddr s x f => fieldAddrOp P s (opv st x) f K
  | .nilCheck x => nilOp (opv st x) K
  | .indexAddr t x ix => indexAddrOp P st t (opv st x) (opv st ix) K
  | .extract x i => extractOp (opv st x) i K
  | .binOp op xT x y _ => cmpOp P st op xT (opv st x) (opv st y) K
  | .unOp op _ x => unOp' op (opv st x) K
  | .convert s d x => convOp P st o.dst s d (opv st x) K
  | .makeFunc f first caps => makeFuncOp f (first.toList.map (opv st)) (caps.toList.map (opv st)) K
  | .build t parts => buildOp P t (parts.toList.map fun p => (p.1, opv st p.2)) K
  | .buildSlice t len parts => bif fz (o.dst.getD 0 + 4000) then buildSliceF P o.dst t len (parts.toList.map fun p => (p.1, opv st p.2)) K else bif fz (o.dst.getD 0 + 8000) then buildSliceW P o.dst t len (parts.toList.map fun p => (p.1, opv st p.2)) K else buildSliceOp P st o.dst t len (parts.toList.map fun p => (p.1, opv st p.2)) K
  | .store t x y => storeOp P st t (opv st x) (opv st y) K
  | .makeSlice t x y => makeSliceOp P o.dst t (opv st x) (opv st y) K
  | .slice t x lo hi none => bif fz (o.dst.getD 0 + 9000) then slicePfx P st t (opv st x) (lo.map (opv st)) (hi.map (opv st)) K else sliceOp2 P st o.dst t (opv st x) (lo.map (opv st)) (hi.map (opv st)) K
  | .index t x ix => indexOp P t (opv st x) (opv st ix) K
  | .makeMap t r => makeMapOp P o.dst t (r.map (opv st)) K
  | .lookup t x ix ok => lookupOp P st t (opv st x) (opv st ix) ok K
  | .mapUpdate t x k y => mapUpdateOp P st t (opv st x) (opv st k) (opv st y) K
  | .insert t x k y => mapUpdateOp P st t (opv st x) (opv st k) (opv st y) K
  | .call { callee := .builtin .append, args, argTypes } => match args.toList, argTypes.toList with
    | [x, y], [t, t'] => bif fz (o.dst.getD 0 + 5000) then appendOpF P st o.dst t t' (opv st x) (opv st y) K else appendOp P st o.dst t t' (opv st x) (opv st y) K
    | _, _ => False
  | .call { callee := .builtin .clear, args, argTypes } => match args.toList, argTypes.toList with
    | [x], [t] => clearOp P st t (opv st x) K
    | _, _ => False
  | .call { callee := .builtin .copy, args, argTypes } => match args.toList, argTypes.toList with
    | [x, y], [t, _] => copyOp P st t (opv st x) (opv st y) K
    | _, _ => False
  | .call { callee := .builtin .len, args, argTypes } => match args.toList, argTypes.toList with
    | [x], [t] => lenOp P st t (opv st x) K
    | _, _ => False
  | .call { callee := .builtin .cap, args, argTypes } => match args.toList, argTypes.toList with
    | [x], [t] => capOp P t (opv st x) K
    | _, _ => False
  | .call { callee := .builtin .min, args, argTypes := _ } => match args.toList with
    | [x, y] => minOp (opv st x) (opv st y) K
    | _ => False
  | _ => False

/-! ### That the model's operations do so -/
section
variable {P : Program} {c : Ctx P} {st : St} {a : Act} {w : World} {o : Oper} {I : Nat → Prop} {hdr : Nat → Option Value} {F : Nat → List Nat}

def HandOver (st : St) (w : World) (I : Nat → Prop) (hdr : Nat → Option Value) (F : Nat → List Nat) (f : AV → AV) (g : AV → List Nat) : Prop :=
  ∀ x v, Rep w I hdr x [] v → (g x).Nodup → ∃ B, Rep w I hdr (f x) B v ∧ B.Nodup ∧ ∀ b, b ∈ B → ∃ nm, nm ∈ g x ∧ st.o nm ≠ none ∧ b ∈ F nm

theorem hand_list (h : StRelAt c st a w I hdr F) {f : AV → AV} {g : AV → List Nat} (hf : HandOver st w I hdr F f g) : ∀ {l : List AV} {vs : List Value}, RepL w I hdr l [] vs → (l.flatMap g).Nodup →
    ∃ B, RepL w I hdr (l.map f) B vs ∧ B.Nodup ∧ ∀ b, b ∈ B → ∃ nm, nm ∈ l.flatMap g ∧ st.o nm ≠ none ∧ b ∈ F nm
  | [], vs, hl, _ => ⟨[], by simpa using hl, List.nodup_nil, fun b hb => by cases hb⟩
  | x :: xs, vs, hl, hn => by
    simp only [RepL] at hl
    obtain ⟨B₁, B₂, v, vs', e, rfl, h1, h2⟩ := hl
    obtain ⟨rfl, rfl⟩ : B₁ = [] ∧ B₂ = [] := by simpa using e.symm
    simp only [List.flatMap_cons] at hn ⊢
    have hn' := List.nodup_append.1 hn
    obtain ⟨C₁, r1, d1, k1⟩ := hf x v h1 hn'.1
    obtain ⟨C₂, r2, d2, k2⟩ := hand_list h hf h2 hn'.2.1
    refine ⟨C₁ ++ C₂, ?_, List.nodup_append.2 ⟨d1, d2, fun b hb b' hb' e => ?_⟩, fun b hb => ?_⟩
    · simp only [List.map_cons, RepL]
      exact ⟨C₁, C₂, v, vs', rfl, rfl, r1, r2⟩
    · subst e
      obtain ⟨nm, m1, o1, f1⟩ := k1 b hb
      obtain ⟨nm', m2, o2, f2⟩ := k2 b hb'
      exact h.dj nm nm' (fun e => hn'.2.2 nm m1 nm' m2 e) o1 o2 b f1 f2
    · rcases List.mem_append.1 hb with hb | hb
      · obtain ⟨nm, m, r⟩ := k1 b hb
        exact ⟨nm, by simp [m], r⟩
      · obtain ⟨nm, m, r⟩ := k2 b hb
        exact ⟨nm, List.mem_append.2 (.inr m), r⟩

theorem hand1 (h : StRelAt c st a w I hdr F) : HandOver st w I hdr F (rsv1 st.o) nmB1 := by
  intro x v hx hn
  cases x with
  | ref nm =>
    simp only [rsv1, nmB1]
    cases ho : st.o nm with
    | none => exact ⟨[], hx, List.nodup_nil, fun b hb => by cases hb⟩
    | some y =>
      simp only [Rep] at hx
      obtain ⟨u, hu, hr⟩ := h.ob nm y ho
      rw [hx.2] at hu
      cases hu
      have hne : st.o nm ≠ none := by rw [ho]; simp
      exact ⟨F nm, hr, h.nd nm hne, fun b hb => ⟨nm, by simp, hne, hb⟩⟩
  | _ => exact ⟨[], hx, List.nodup_nil, fun b hb => by cases hb⟩

/-- The operation, in this frame and world, leads to one of the effects of 'K'. -/
def Goes (P : Program) (o : Oper) (c : Ctx P) (st : St) (a : Act) (w : World) (K : Eff → Prop) : Prop :=
  ∀ (K' : Act → World → Prop) (Q : Exit → Act → World → Prop), (∀ e a' w', K e → (e.ok st o.dst → StRel c (st.app o.dst e) a' w') → K' a' w') → o.wp P a w K' Q

theorem goes_value {K : Eff → Prop} {v : Value} {w' : World} (e : Eff) (hr : (execOp a.eval o).run P w = .ok (.value v) w') (hK : K e) (hs : e.ok st o.dst → StRel c (st.app o.dst e) (a.put o.dst v) w') : Goes P o c st a w K := by
  intro K' Q h
  unfold Oper.wp
  rw [hr]
  exact h e _ _ hK hs

/-- A value, in a world with the same memory. -/
theorem goes_pure (h : StRelAt c st a w I hdr F) {K : Eff → Prop} {v : Value} {w' : World} (e : Eff) (hn : e.news = []) (hws : e.ws = []) (hr : (execOp a.eval o).run P w = .ok (.value v) w') (hsame : Same w w') (hK : K e)
    (hv : Rep w I hdr e.val [] v) : Goes P o c st a w K := by
  refine goes_value e hr hK fun hok => ?_
  have hs := h.same hsame
  have hv' : Rep w' I hdr e.val [] v := Rep.frame (fun _ hb => hb) (fun b _ => by rw [hsame.heap]) _ _ _ (fun b hb => by cases hb) hv
  simp only [St.app, hn, hws, St.ws, St.nws]
  cases hd : o.dst with
  | none => exact ⟨I, hdr, F, hs⟩
  | some d => exact ⟨I, hdr, F, hs.put (hok.1 d hd) hv'⟩

theorem rep_opv (h : StRelAt c st a w I hdr F) (x : Operand) : Rep w I hdr (opv st x) [] (a.eval x) := by
  cases x with
  | tmp t => exact h.sl t
  | const v => exact rep_ofVal w I hdr v
  | global g => simp [opv, Act.eval, Rep]
  | func f => simp [opv, Act.eval, Rep, RepL]

theorem rep_opvs (h : StRelAt c st a w I hdr F) : ∀ l : List Operand, RepL w I hdr (l.map (opv st)) [] (l.map a.eval)
  | [] => by simp [RepL]
  | x :: l => by
    simp only [List.map_cons, RepL]
    exact ⟨[], [], _, _, rfl, rfl, rep_opv h x, rep_opvs h l⟩

theorem rep_val {x : Value} {B : List Nat} {v : Value} (h : Rep w I hdr (.val x) B v) : v = x := by simp only [Rep] at h; exact h.2

theorem s_move (h : StRelAt c st a w I hdr F) {x : Operand} {K : Eff → Prop} (ho : o.op = .move x ∨ o.op = .assign x) (hK : K { val := opv st x }) : Goes P o c st a w K := by
  refine goes_pure h (v := a.eval x) (w' := w) { val := opv st x } rfl rfl ?_ (Same.refl w) hK (rep_opv h x)
  rcases ho with ho | ho <;> simp [execOp, ho]

theorem s_pick (h : StRelAt c st a w I hdr F) {b x y : Operand} {K : Eff → Prop} (ho : o.op = .pick b x y) (hK : pickOp (opv st b) (opv st x) (opv st y) K) : Goes P o c st a w K := by
  have hb := rep_opv h b
  have hx := rep_opv h x
  have hy := rep_opv h y
  unfold pickOp at hK
  split at hK
  case h_2 => exact hK.elim
  rename_i t ht
  rw [ht] at hb
  have eb := rep_val hb
  have hr : (execOp a.eval o).run P w = .ok (.value (if t then a.eval x else a.eval y)) w := by
    simp only [execOp, ho, eb]
    cases t <;> simp [asBool]
  have key : Rep w I hdr (bif t then opv st x else opv st y) [] (if t then a.eval x else a.eval y) := by
    cases t
    · exact hy
    · exact hx
  split at hK
  · rename_i p q hp hq
    refine goes_pure h _ rfl rfl hr (Same.refl w) hK ?_
    rw [hp, hq] at key
    cases t <;> exact key
  · exact goes_pure h _ rfl rfl hr (Same.refl w) hK key

theorem s_un (h : StRelAt c st a w I hdr F) {op : UnOp} {t : TypeId} {x : Operand} {K : Eff → Prop} (ho : o.op = .unOp op t x) (hK : unOp' op (opv st x) K) : Goes P o c st a w K := by
  have hx := rep_opv h x
  unfold unOp' at hK
  split at hK
  · rename_i b hb
    rw [hb] at hx
    refine goes_pure h (v := .bool !b) (w' := w) _ rfl rfl ?_ (Same.refl w) hK (by simp [Rep])
    simp [execOp, ho, rep_val hx, Op.unary]
  · rename_i k n hb
    rw [hb] at hx
    refine goes_pure h (v := .int k (k.wrap (0 - n))) (w' := w) _ rfl rfl ?_ (Same.refl w) hK (by simp [Rep])
    simp [execOp, ho, rep_val hx, Op.unary, Op.intArith]
  · exact hK.elim

theorem s_extract (h : StRelAt c st a w I hdr F) {x : Operand} {i : Nat} {K : Eff → Prop} (ho : o.op = .extract x i) (hK : extractOp (opv st x) i K) : Goes P o c st a w K := by
  have hx := rep_opv h x
  unfold extractOp at hK
  split at hK
  case h_2 => exact hK.elim
  rename_i l hl
  rw [hl] at hx
  simp only [Rep] at hx
  obtain ⟨cs, hcs, hr⟩ := hx
  split at hK
  case h_2 => exact hK.elim
  rename_i y hy
  obtain ⟨u, B₁, hu, hru, hB⟩ := hr.get hy
  have e : B₁ = [] := by
    cases B₁ with
    | nil => rfl
    | cons b B => have := hB b (by simp); cases this
  subst e
  refine goes_pure h (v := u) (w' := w) _ rfl rfl ?_ (Same.refl w) hK hru
  have hu' : cs[i]? = some u := by simpa using hu
  simp [execOp, ho, hcs, Instr.extract, hu']

theorem s_bin (h : StRelAt c st a w I hdr F) {op : BinOp} {xT yT : TypeId} {x y : Operand} {K : Eff → Prop} (ho : o.op = .binOp op xT x y yT) (hK : binOp' P st op xT (opv st x) (opv st y) K) : Goes P o c st a w K := by
  have hx := rep_opv h x
  have hy := rep_opv h y
  unfold binOp' at hK
  split at hK
  case h_2 => exact hK.elim
  rename_i u v hu hv
  rw [hu] at hx
  rw [hv] at hy
  have ex := rep_val hx
  have ey := rep_val hy
  have fin : ∀ r : Value, (execOp a.eval o).run P w = .ok (.value r) w → K { val := .val r } → Goes P o c st a w K := fun r hr hk =>
    goes_pure h (v := r) (w' := w) _ rfl rfl hr (Same.refl w) hk (by simp [Rep])
  unfold pbin at hK
  split at hK
  · rename_i k p k' q
    have hg : ∀ w, (eqGuard op xT x y (.int k p) (.int k' q)).run P w = .ok () w := fun w => by
      unfold eqGuard; cases op <;> rfl
    split at hK
    · obtain ⟨hb, hK⟩ := hK
      refine fin _ ?_ hK
      simp [execOp, ho, ex, ey, hg, binOp, Op.shift, show ¬ q < 0 by omega]
    · obtain ⟨hb, hK⟩ := hK
      refine fin _ ?_ hK
      simp [execOp, ho, ex, ey, hg, binOp, Op.shift, show ¬ q < 0 by omega]
    · rename_i h1 h2
      obtain ⟨rfl, hK⟩ := hK
      unfold intOp at hK
      split at hK <;> first
        | exact hK.elim
        | (refine fin _ ?_ hK; simp [execOp, ho, ex, ey, hg, binOp, Op.intArith, Op.intBits, Op.intCmp, ibits]; done)
        | (obtain ⟨hz, hK⟩ := hK; refine fin _ ?_ hK; simp [execOp, ho, ex, ey, hg, binOp, Op.intDiv, hz]; done)
  · rename_i p q
    obtain ⟨ht, hK⟩ := hK
    have hg : ∀ w, (eqGuard op xT x y (.bool p) (.bool q)).run P w = .ok () w := fun w => by
      unfold eqGuard; cases op <;> rfl
    have hu : P.underlying xT = some .bool := by
      unfold tbool at ht
      split at ht
      · assumption
      · cases ht
    split at hK
    · refine fin _ ?_ hK
      have := run_eql_bool (P := P) w xT p q hu
      simp [execOp, ho, ex, ey, hg, this]
    · refine fin _ ?_ hK
      have := run_neq_bool (P := P) w xT p q hu
      simp [execOp, ho, ex, ey, hg, this]
    · exact hK.elim
  · rename_i p q
    have hg : ∀ w, (eqGuard op xT x y (.string p) (.string q)).run P w = .ok () w := fun w => by
      unfold eqGuard; cases op <;> rfl
    split at hK
    · obtain ⟨hb, hK⟩ := hK
      refine fin _ ?_ hK
      simp [execOp, ho, ex, ey, hg, binOp, Op.stringOp]
      omega
    · refine fin _ ?_ hK
      simp [execOp, ho, ex, ey, hg, binOp, Op.stringOp]
    · refine fin _ ?_ hK
      simp [execOp, ho, ex, ey, hg, binOp, Op.stringOp]
    · refine fin _ ?_ hK
      simp [execOp, ho, ex, ey, hg, binOp, Op.stringOp]
    · exact hK.elim
  · exact hK.elim

/-- Cells that a pointer leads to. -/
theorem aload_run {t : TypeId} {l : List AV} {off : Nat} {rd : Bool} {K : Eff → Prop} (hK : aload P t l off rd K)
    {ad : Addr} {us : List Value} {B : List Nat} (hc : CellsAt w ad us) (hr : RepL w I hdr l B (us.take l.length)) (hlen : l.length ≤ us.length) :
    ∃ e v, (loadVar t (ad.add off)).run P w = .ok v w ∧ K e ∧ e.news = [] ∧ e.ws = [] ∧ Rep w I hdr e.val [] v := by
  obtain ⟨hok, hK⟩ := hK
  obtain ⟨i, ds, hi, hds⟩ := tok_spec hok
  split at hK
  · rename_i hag
    obtain ⟨hle, hcp, hK⟩ := hK
    have hw := hr.window off (tsize P t) hcp
    have hcw : CellsAt w (ad.add off) (((us.take l.length).drop off).take (tsize P t)) := by
      refine CellsAt.window (fun i u hu => hc i u ?_) off _
      rw [List.getElem?_take] at hu
      split at hu
      · exact hu
      · cases hu
    have hlw : (((us.take l.length).drop off).take (tsize P t)).length = tsize P t := by
      rw [List.length_take, List.length_drop, List.length_take]; omega
    refine ⟨_, .agg (((us.take l.length).drop off).take (tsize P t)).toArray, ?_, hK, rfl, rfl, ?_⟩
    · have hl := run_loadCells_list (P := P) w (ad.add off) _ hcw
      rw [hlw] at hl
      simp [loadVar, run_isAgg' hds, hag, run_sizeOf' hi, hl]
    · simp only [Rep]
      exact ⟨_, rfl, hw⟩
  · rename_i hag
    obtain ⟨hle, hcp, hK⟩ := hK
    have hget : l[off]? = some (l.getD off .junk) := by
      rw [List.getD_eq_getElem?_getD]
      rw [List.getElem?_eq_getElem hle]; rfl
    obtain ⟨u, B₁, hu, hru, _⟩ := hr.get hget
    have e := cpy_nil hcp hru
    subst e
    have hu' : us[off]? = some u := by
      rw [List.getElem?_take, if_pos hle] at hu
      exact hu
    refine ⟨_, u, ?_, hK, rfl, rfl, hru⟩
    have hcell := hc off u hu'
    simp [loadVar, run_isAgg' hds, hag, hcell]

theorem Same.all (w : World) : ∀ b : Nat, w.heap[b]? = w.heap[b]? := fun _ => rfl

/-- A node and its header. -/
theorem node_at (h : StRelAt c st a w I hdr F) {nm : Nat} {x : AV} (hx : st.o nm = some x) : ∃ v, hdr nm = some v ∧ Rep w I hdr x (F nm) v := h.ob nm x hx

theorem add_zero (a : Addr) : a.add 0 = a := by simp [Addr.add]

theorem loadOp_run (h : StRelAt c st a w I hdr F) {t : TypeId} {x : AV} {u : Value} (hx : Rep w I hdr x [] u) {K : Eff → Prop} (hK : loadOp P st t x K) :
    ∃ ad e v, u = .pointer (some ad) ∧ (loadVar t ad).run P w = .ok v w ∧ K e ∧ e.news = [] ∧ e.ws = [] ∧ Rep w I hdr e.val [] v := by
  unfold loadOp at hK
  split at hK
  · rename_i l
    simp only [Rep] at hx
    obtain ⟨_, ad, us, hv, hI, hc, hr⟩ := hx
    have hlen := hr.length
    obtain ⟨e, v, h1, h2⟩ := aload_run (hdr := hdr) (I := I) (B := []) hK hc (by rw [List.take_of_length_le (by omega)]; exact repL_nohdr_of_none hdr hr) (by omega)
    rw [add_zero] at h1
    exact ⟨ad, e, v, hv, h1, h2⟩
  · rename_i nm off
    simp only [Rep] at hx
    obtain ⟨_, hv, ad, hh, had, hv'⟩ := hx
    split at hK
    · rename_i l hn
      obtain ⟨v, hv2, hr⟩ := h.ob nm _ hn
      rw [hh] at hv2
      cases hv2
      simp only [Rep] at hr
      obtain ⟨b, C, ty, B', rfl, hB, hC, hr⟩ := hr
      simp only [addrOf] at had
      cases had
      have hlen := hr.length
      have hcs : CellsAt w ⟨b, 0, none⟩ C.toList := by
        have := cellsAt_take hC C.toList.length
        rwa [List.take_length] at this
      obtain ⟨e, v, h1, h2⟩ := aload_run (hdr := hdr) (I := I) (B := B') hK hcs (by rw [List.take_of_length_le (by omega)]; exact hr) (by omega)
      exact ⟨_, e, v, hv', h1, h2⟩
    · rename_i sz nn l hn
      obtain ⟨v, hv2, hr⟩ := h.ob nm _ hn
      rw [hh] at hv2
      cases hv2
      simp only [Rep] at hr
      rcases hr with ⟨rfl, _⟩ | ⟨b, n, cp, C, ty, B', rfl, hB, hC, hsz, hnc, hcC, hr⟩
      · simp [nilSlice, addrOf] at had
      · simp only [addrOf] at had
        cases had
        have hlen := hr.length
        rw [List.length_take] at hlen
        have hcs : CellsAt w ⟨b, 0, none⟩ C.toList := by
          have := cellsAt_take hC C.toList.length
          rwa [List.take_length] at this
        obtain ⟨e, v, h1, h2⟩ := aload_run (hdr := hdr) (I := I) (B := B') hK hcs (repL_nohdr_of_none hdr hr) (by omega)
        exact ⟨_, e, v, hv', h1, h2⟩
    · rename_i sz l hn
      obtain ⟨v, hv2, hr⟩ := h.ob nm _ hn
      rw [hh] at hv2
      cases hv2
      simp only [Rep] at hr
      obtain ⟨b, n, cp, C, ty, B', rfl, hB, hC, hsz, hnc, hcC, hr⟩ := hr
      simp only [addrOf] at had
      cases had
      have hlen := hr.length
      rw [List.length_take] at hlen
      have hcs : CellsAt w ⟨b, 0, none⟩ C.toList := by
        have := cellsAt_take hC C.toList.length
        rwa [List.take_length] at this
      obtain ⟨e, v, h1, h2⟩ := aload_run (hdr := hdr) (I := I) (B := B') hK hcs hr (by omega)
      exact ⟨_, e, v, hv', h1, h2⟩
    · exact hK.elim
  · exact hK.elim

theorem s_load (h : StRelAt c st a w I hdr F) {t : TypeId} {x : Operand} {K : Eff → Prop} (ho : o.op = .load t x) (hK : loadOp P st t (opv st x) K) : Goes P o c st a w K := by
  obtain ⟨ad, e, v, hx, hl, hK, hn, hws, hr⟩ := loadOp_run h (rep_opv h x) hK
  refine goes_pure h e hn hws (v := v) (w' := w) ?_ (Same.refl w) hK hr
  simp [execOp, ho, hx, Instr.loadAt, Instr.sureAddr, hl]

theorem s_nilCheck (h : StRelAt c st a w I hdr F) {x : Operand} {K : Eff → Prop} (ho : o.op = .nilCheck x) (hK : nilOp (opv st x) K) : Goes P o c st a w K := by
  have hx := rep_opv h x
  unfold nilOp at hK
  split at hK
  case h_3 => exact hK.elim
  · rename_i nm ofs hl
    rw [hl] at hx
    have hx' := hx
    simp only [Rep] at hx
    obtain ⟨_, v, ad, hh, had, hv⟩ := hx
    have run : (execOp a.eval o).run P w = .ok (.value (a.eval x)) w := by simp [execOp, ho, hv]
    exact goes_pure h _ rfl rfl run (Same.refl w) hK hx'
  · rename_i l hl
    rw [hl] at hx
    have hx' := hx
    simp only [Rep] at hx
    obtain ⟨_, ad, us, hv, hI, hc, hr⟩ := hx
    have run : (execOp a.eval o).run P w = .ok (.value (a.eval x)) w := by simp [execOp, ho, hv]
    exact goes_pure h _ rfl rfl run (Same.refl w) hK hx'
theorem s_fieldAddr (h : StRelAt c st a w I hdr F) {s : TypeId} {x : Operand} {f : Nat} {K : Eff → Prop} (ho : o.op = .fieldAddr s x f) (hK : fieldAddrOp P s (opv st x) f K) : Goes P o c st a w K := by
  have hx := rep_opv h x
  unfold fieldAddrOp at hK
  split at hK
  case h_2 => exact hK.elim
  rename_i fs hfs
  split at hK
  case h_2 => exact hK.elim
  rename_i off fsz hf
  obtain ⟨hsz, hK⟩ := hK
  unfold tfields at hfs
  split at hfs
  case h_2 => cases hfs
  rename_i gs hg
  obtain ⟨fd, hfd, hfe⟩ := mapM_get hfs hf
  rw [Option.map_eq_some_iff] at hfe
  obtain ⟨i, hi, hfe⟩ := hfe
  simp only [Prod.mk.injEq] at hfe
  obtain ⟨rfl, rfl⟩ := hfe
  rw [← tsize_info hi] at hsz hK
  have hfd' : gs[f]? = some fd := by simpa using hfd
  have hz : ¬ tsize P fd.type = 0 := by omega
  have run : ∀ ad : Addr, a.eval x = .pointer (some ad) → (execOp a.eval o).run P w = .ok (.value (.pointer (some (ad.add fd.offset)))) w := fun ad hv => by
    simp [execOp, ho, hv, Instr.fieldAt, run_underlying hg, hfd', Instr.sureAddr, fieldPlace, run_sizeOf' hi, hz]
  split at hK
  · rename_i nm ofs hl
    rw [hl] at hx
    simp only [Rep] at hx
    obtain ⟨_, v, ad, hh, had, hv⟩ := hx
    refine goes_pure h _ rfl rfl (run _ hv) (Same.refl w) hK ?_
    simp only [Rep]
    exact ⟨trivial, v, ad, hh, had, by rw [Addr.add_add]⟩
  · rename_i l hl
    rw [hl] at hx
    simp only [Rep] at hx
    obtain ⟨_, ad, us, hv, hI, hc, hr⟩ := hx
    refine goes_pure h _ rfl rfl (run _ hv) (Same.refl w) hK ?_
    simp only [Rep]
    have hblk : (ad.add fd.offset).block = ad.block := by unfold Addr.add; split <;> rfl
    refine ⟨trivial, _, _, rfl, by rw [hblk]; exact hI, hc.window fd.offset (tsize P fd.type), ?_⟩
    exact RepL.sub hr fd.offset (tsize P fd.type)
  · exact hK.elim

/-- What a slice is in the world. -/
theorem slOf_spec (h : StRelAt c st a w I hdr F) {x : AV} {v : Value} {sz : Nat} {nn : Bool} {l : List AV} {nm : Option Nat} (hs : slOf st x = some (sz, nn, l, nm)) (hx : Rep w I hdr x [] v) :
    (v = nilSlice ∧ l = [] ∧ nn = false) ∨ ∃ ad n cp us B, v = .slice (some ad) n cp ∧ n * sz = l.length ∧ n ≤ cp ∧ CellsAt w ad us ∧ RepL w I (fun _ => none) l B us ∧
      (match nm with | none => B = [] ∧ (l ≠ [] → I ad.block) | some nm => hdr nm = some v ∧ st.o nm = some (.own sz nn l) ∧ (∀ b, b ∈ B → b ∈ F nm) ∧ B.Nodup) := by
  cases x with
  | sl sz' nn' l' =>
    simp only [slOf, Option.some.injEq, Prod.mk.injEq] at hs
    obtain ⟨rfl, rfl, rfl, rfl⟩ := hs
    simp only [Rep] at hx
    rcases hx.2 with ⟨e1, e2, e3⟩ | ⟨ad, n, cp, us, hv, hn, hc, hI, hcs, hr⟩
    · exact .inl ⟨e1, e2, e3⟩
    · exact .inr ⟨ad, n, cp, us, [], hv, hn, hc, hcs, hr, rfl, hI⟩
  | ref k =>
    simp only [slOf] at hs
    unfold slNode at hs
    split at hs
    case h_2 => cases hs
    rename_i sz' nn' l' ho
    simp only [Option.some.injEq, Prod.mk.injEq] at hs
    obtain ⟨rfl, rfl, rfl, rfl⟩ := hs
    simp only [Rep] at hx
    obtain ⟨_, hh⟩ := hx
    obtain ⟨v', hv', hr⟩ := h.ob k _ ho
    rw [hh] at hv'
    cases hv'
    simp only [Rep] at hr
    rcases hr with ⟨e1, e2, e3, _⟩ | ⟨b, n, cp, C, ty, B', rfl, hB, hC, hsz, hnc, hcC, hr⟩
    · exact .inl ⟨e1, e2, e3⟩
    · exact .inr ⟨⟨b, 0, none⟩, n, cp, _, B', rfl, hsz, hnc, cellsAt_take hC _, hr, hh, ho, fun b hb => by rw [hB]; exact List.mem_cons_of_mem _ hb, by have := h.nd k (by rw [ho]; simp); rw [hB] at this; exact (List.nodup_cons.1 this).2⟩
  | val u =>
    simp only [slOf] at hs
    unfold slVal at hs
    split at hs
    case h_2 => cases hs
    simp only [Option.some.injEq, Prod.mk.injEq] at hs
    obtain ⟨rfl, rfl, rfl, rfl⟩ := hs
    exact .inl ⟨by simp only [Rep] at hx; exact hx.2, rfl, rfl⟩
  | _ => simp [slOf] at hs

/-- The same, of a node that may lie open. -/
theorem slOf2_spec (h : StRelAt c st a w I hdr F) {x : AV} {v : Value} {sz : Nat} {nn : Bool} {l : List AV} {nm : Option Nat} (hs : slOf2 st x = some (sz, nn, l, nm)) (hx : Rep w I hdr x [] v) :
    (v = nilSlice ∧ l = [] ∧ nn = false) ∨ ∃ ad n cp us, v = .slice (some ad) n cp ∧ n * sz = l.length ∧ n ≤ cp ∧ CellsAt w ad us ∧
      (match nm with | none => RepL w I (fun _ => none) l [] us ∧ (l ≠ [] → I ad.block) | some nm => hdr nm = some v) := by
  have old : slOf st x = some (sz, nn, l, nm) → (v = nilSlice ∧ l = [] ∧ nn = false) ∨ ∃ ad n cp us, v = .slice (some ad) n cp ∧ n * sz = l.length ∧ n ≤ cp ∧ CellsAt w ad us ∧
      (match nm with | none => RepL w I (fun _ => none) l [] us ∧ (l ≠ [] → I ad.block) | some nm => hdr nm = some v) := by
    intro hs
    rcases slOf_spec h hs hx with h1 | ⟨ad, n, cp, us, B, h1, h2, h3, h4, h5, h6⟩
    · exact .inl h1
    · refine .inr ⟨ad, n, cp, us, h1, h2, h3, h4, ?_⟩
      cases nm with
      | none => obtain ⟨rfl, h6⟩ := h6; exact ⟨h5, h6⟩
      | some nm => exact h6.1
  cases x with
  | ref k =>
    simp only [slOf2] at hs
    unfold slNode2 at hs
    split at hs
    · rename_i sz' nn' l' ho
      exact old (by simp only [slOf, slNode, ho]; exact hs)
    · rename_i sz' l' ho
      simp only [Option.some.injEq, Prod.mk.injEq] at hs
      obtain ⟨rfl, rfl, rfl, rfl⟩ := hs
      simp only [Rep] at hx
      obtain ⟨_, hh⟩ := hx
      obtain ⟨v', hv', hr⟩ := h.ob k _ ho
      rw [hh] at hv'
      cases hv'
      simp only [Rep] at hr
      obtain ⟨b, n, cp, C, ty, B', rfl, hB, hC, hsz, hnc, hcC, hr⟩ := hr
      exact .inr ⟨⟨b, 0, none⟩, n, cp, _, rfl, hsz, hnc, cellsAt_take hC C.toList.length, hh⟩
    · cases hs
  | _ => exact old (by simpa only [slOf2] using hs)

theorem slOf_nil (h : StRelAt c st a w I hdr F) {x : AV} {v : Value} {sz : Nat} {nn : Bool} {l : List AV} {nm : Option Nat} (hs : slOf st x = some (sz, nn, l, nm)) (hx : Rep w I hdr x [] v) :
    ∃ ad n cp, v = .slice ad n cp ∧ (ad = none → (!nn && l.isEmpty) = true) := by
  rcases slOf_spec h hs hx with ⟨rfl, rfl, rfl⟩ | ⟨ad, n, cp, us, B, rfl, _⟩
  · exact ⟨none, 0, 0, rfl, fun _ => rfl⟩
  · exact ⟨some ad, n, cp, rfl, fun e => by cases e⟩

theorem s_cmp (h : StRelAt c st a w I hdr F) {op : BinOp} {xT yT : TypeId} {x y : Operand} {K : Eff → Prop} (ho : o.op = .binOp op xT x y yT) (hK : cmpOp P st op xT (opv st x) (opv st y) K) : Goes P o c st a w K := by
  unfold cmpOp at hK
  split at hK
  case h_2 => exact s_bin h ho hK
  rename_i n' c' hv
  have hx := rep_opv h x
  have hy := rep_opv h y
  rw [hv] at hy
  have ey := rep_val hy
  obtain ⟨he, hK⟩ := hK
  unfold nilK at hK
  obtain ⟨e, he⟩ := Option.isSome_iff_exists.1 he
  have hu := telem_spec he
  have fin : ∀ r : Value, (execOp a.eval o).run P w = .ok (.value r) w → K { val := .val r } → Goes P o c st a w K := fun r hr hk =>
    goes_pure h (v := r) (w' := w) _ rfl rfl hr (Same.refl w) hk (by simp [Rep])
  have hg : ∀ (ad : Option Addr) (n cp : Nat) w, (eqGuard op xT x y (.slice ad n cp) (.slice none n' c')).run P w = .ok () w := fun ad n cp w => by
    unfold eqGuard; cases op <;> rfl
  have r1 : ∀ (ad : Option Addr) (n cp : Nat), a.eval x = .slice ad n cp → op = .eql → (execOp a.eval o).run P w = .ok (.value (.bool ad.isNone)) w := by
    intro ad n cp ex e
    subst e
    have := Lib.run_eql_slice_nil (P := P) w xT _ ad n cp n' c' hu
    simp [execOp, ho, ex, ey, hg, this]
  have r2 : ∀ (ad : Option Addr) (n cp : Nat), a.eval x = .slice ad n cp → op = .neq → (execOp a.eval o).run P w = .ok (.value (.bool (!ad.isNone))) w := by
    intro ad n cp ex e
    subst e
    have h1 := Lib.run_equalIn_slice_nil (P := P) w 9999 xT _ ad n cp n' c' hu
    have : (binOp .neq xT (.slice ad n cp) (.slice none n' c')).run P w = .ok (.bool (!ad.isNone)) w := by
      simp only [binOp]
      simp [Op.equal, Op.maxDepth, h1]
    simp [execOp, ho, ex, ey, hg, this]
  split at hK
  · split at hK
    · rename_i n cp hxv
      rw [hxv] at hx
      exact fin _ (r1 none n cp (rep_val hx) rfl) hK
    · split at hK
      · rename_i sz nn l nm hs
        obtain ⟨ad, n, cp, ex, hn⟩ := slOf_nil h hs hx
        cases ad with
        | none => exact fin _ (r1 none n cp ex rfl) (hK.1 (hn rfl))
        | some ad => exact fin _ (r1 (some ad) n cp ex rfl) hK.2
      · exact hK.elim
  · split at hK
    · rename_i n cp hxv
      rw [hxv] at hx
      exact fin _ (r2 none n cp (rep_val hx) rfl) hK
    · split at hK
      · rename_i sz nn l nm hs
        obtain ⟨ad, n, cp, ex, hn⟩ := slOf_nil h hs hx
        cases ad with
        | none => exact fin _ (r2 none n cp ex rfl) (hK.1 (hn rfl))
        | some ad => exact fin _ (r2 (some ad) n cp ex rfl) hK.2
      · exact hK.elim
  · exact hK.elim

theorem mul_lt_of {i n sz : Nat} (h0 : 0 < sz) (h : (i + 1) * sz ≤ n * sz) : i < n := by
  have := Nat.le_of_mul_le_mul_right h h0
  omega

theorem addr_addS (b i : Nat) : (⟨b, 0, none⟩ : Addr).add i = ⟨b, i, none⟩ := by
  unfold Addr.add
  split
  · rename_i h; subst h; rfl
  · simp
theorem s_indexAddr (h : StRelAt c st a w I hdr F) {t : TypeId} {x ix : Operand} {K : Eff → Prop} (ho : o.op = .indexAddr t x ix) (hK : indexAddrOp P st t (opv st x) (opv st ix) K) : Goes P o c st a w K := by
  have hx := rep_opv h x
  have hix := rep_opv h ix
  unfold indexAddrOp at hK
  split at hK
  case h_3 => exact hK.elim
  case h_2 =>
    rename_i k i hi he
    rw [hi] at hix
    have ei := rep_val hix
    unfold tabIx at hK
    split at hK
    case h_2 => exact hK.elim
    rename_i g n e hxx hta
    rw [hxx] at hx
    have ex := rep_val hx
    split at hK
    case h_2 => exact hK.elim
    rename_i tab hgt
    obtain ⟨hok, hsz, hn2, hi0, hin, hnt, hK⟩ := hK
    obtain ⟨ie, de, hie, hde⟩ := tok_spec hok
    have hu : P.underlying t = some (.array n e) := by
      unfold tarr at hta
      split at hta
      · rename_i n' e' hu; cases hta; exact hu
      · cases hta
    have hg : ∃ nm, (nm, tab) ∈ tabList ∧ P.globalNamed nm = some g := by
      unfold gtab at hgt
      obtain ⟨p, hp, hpe⟩ := List.exists_of_findSome?_eq_some hgt
      split at hpe
      · rename_i hpg; cases hpe; exact ⟨p.1, hp, hpg⟩
      · cases hpe
    obtain ⟨nm, hm, hgn⟩ := hg
    obtain ⟨hIg, hcell⟩ := h.gok nm tab g hm hgn
    have hz : tsize P e = 1 := hsz
    have run : (execOp a.eval o).run P w = .ok (.value (.pointer (some ((⟨g, 0, none⟩ : Addr).add i.toNat)))) w := by
      simp [execOp, ho, ex, ei, Instr.indexAt, Instr.sureAddr, asIntOf, run_underlying hu, hi0, hin, run_sizeOf' hie, hz, show ¬ n ≤ 1 by omega]
    refine goes_pure h _ rfl rfl run (Same.refl w) hK ?_
    have hlt : i.toNat < tab.length := by omega
    simp only [Rep, RepL]
    refine ⟨trivial, _, [tabAt tab i], rfl, ?_, ?_, [], [], _, [], rfl, rfl, ⟨rfl, rfl⟩, rfl, rfl⟩
    · show I ((⟨g, 0, none⟩ : Addr).add i.toNat).block
      have : ((⟨g, 0, none⟩ : Addr).add i.toNat).block = g := by unfold Addr.add; split <;> rfl
      rw [this]; exact hIg
    · intro j u hj
      cases j with
      | succ j => simp at hj
      | zero =>
        simp only [List.getElem?_cons_zero, Option.some.injEq] at hj
        subst hj
        have e1 : ((⟨g, 0, none⟩ : Addr).add i.toNat).add 0 = ⟨g, i.toNat, none⟩ := by simp [Addr.add]; omega
        rw [e1]
        apply hcell
        rw [tabAt, List.getD_eq_getElem?_getD, List.getElem?_eq_getElem hlt]; rfl
  rename_i k i e hi he
  rw [hi] at hix
  have ei := rep_val hix
  have hu := telem_spec he
  split at hK
  case h_2 =>
    unfold sfxIx at hK
    split at hK
    case h_2 => exact hK.elim
    rename_i nm off hs
    split at hK
    case h_2 => exact hK.elim
    rename_i sz nn l hno
    obtain ⟨hok, hts, rfl, hi0, hle, hK⟩ := hK
    obtain ⟨ie, de, hie, hde⟩ := tok_spec hok
    rw [hs] at hx
    simp only [Rep] at hx
    obtain ⟨_, ad, n, cp, hh, hin, hnc, hv⟩ := hx
    obtain ⟨u, hu', hr⟩ := h.ob nm _ hno
    rw [hh] at hu'
    cases hu'
    simp only [Rep] at hr
    rcases hr with ⟨hbad, _⟩ | ⟨b, n', cp', C, ty, B', hv', hF, hC, hns, hnc', hcC, hr⟩
    · cases hbad
    simp only [Value.slice.injEq, Option.some.injEq] at hv'
    obtain ⟨rfl, rfl, rfl⟩ := hv'
    rw [Nat.mul_one] at hns
    have run : (execOp a.eval o).run P w = .ok (.value (.pointer (some (((⟨b, 0, none⟩ : Addr).add off).add (i.toNat * tsize P e))))) w := by
      have hlt : i < ((n - off : Nat) : Int) := by omega
      simp [execOp, ho, hv, ei, Instr.indexAt, asIntOf, run_underlying hu, hi0, hlt, run_sizeOf' hie]
    have e1 : ((⟨b, 0, none⟩ : Addr).add off).add (i.toNat * tsize P e) = (⟨b, 0, none⟩ : Addr).add (off + i.toNat) := by
      rw [hts, Nat.mul_one, addr_addS, addr_addS]
      unfold Addr.add
      split
      · rename_i h0; rw [h0]; rfl
      · simp
    rw [e1] at run
    refine goes_pure h _ rfl rfl run (Same.refl w) hK ?_
    simp only [Rep]
    exact ⟨trivial, _, _, hh, rfl, rfl⟩
  rename_i sz nn l nm hs
  obtain ⟨hok, rfl, h0, hi0, hle, hK⟩ := hK
  obtain ⟨ie, de, hie, hde⟩ := tok_spec hok
  rcases slOf2_spec h hs hx with ⟨_, rfl, _⟩ | ⟨ad, n, cp, us, hv, hn, hc, hcs, hm⟩
  · have := Nat.mul_pos (show 0 < i.toNat + 1 by omega) h0
    simp only [List.length_nil] at hle
    omega
  · rw [← hn] at hle
    have hin := mul_lt_of h0 hle
    have run : (execOp a.eval o).run P w = .ok (.value (.pointer (some (ad.add (i.toNat * tsize P e))))) w := by
      have hlt : i < (n : Int) := by omega
      simp [execOp, ho, hv, ei, Instr.indexAt, asIntOf, run_underlying hu, hi0, hlt, run_sizeOf' hie]
    have hblk : (ad.add (i.toNat * tsize P e)).block = ad.block := by unfold Addr.add; split <;> rfl
    have hne : l ≠ [] := by
      intro e; subst e
      have := Nat.mul_pos (show 0 < i.toNat + 1 by omega) h0
      rw [hn, List.length_nil] at hle
      omega
    cases nm with
    | none =>
      obtain ⟨hr, hI⟩ := hm
      refine goes_pure h _ rfl rfl run (Same.refl w) hK ?_
      simp only [Rep]
      exact ⟨trivial, _, _, rfl, by rw [hblk]; exact hI hne, hcs.window _ _, hr.sub _ _⟩
    | some nm =>
      have hh := hm
      refine goes_pure h _ rfl rfl run (Same.refl w) hK ?_
      simp only [Rep]
      exact ⟨trivial, _, ad, hh, by rw [hv]; rfl, rfl⟩

theorem run_getMap {r : Nat} {es : Array MapEntry} {clock : Nat} (hb : w.heap[r]? = some (.map es clock)) : (getObj r).run P w = .ok (.map es clock) w := by
  simp [getObj, Sem.run, hb]
theorem mapT_spec {t k e : TypeId} (h : mapT P t = some (k, e)) : P.underlying t = some (.map k e) := by
  unfold mapT at h
  split at h
  · rename_i k' e' hu; cases h; exact hu
  · cases h
theorem byteL_rep {w : World} {I : Nat → Prop} {hdr : Nat → Option Value} : ∀ {l : List AV} {bs : List UInt8} {B : List Nat} {us : List Value}, byteL l = some bs → RepL w I hdr l B us → us = bs.map fun b => .int .u8 (b.toNat : Int)
  | [], bs, B, us, hb, h => by
    simp only [byteL, Option.some.injEq] at hb
    subst hb
    simp only [RepL] at h
    simp [h.2]
  | x :: l, bs, B, us, hb, h => by
    unfold byteL at hb
    split at hb
    · rename_i e; cases e
    · rename_i n l' e
      cases e
      split at hb
      case isFalse => cases hb
      rename_i hn
      rw [Option.map_eq_some_iff] at hb
      obtain ⟨bs', hb', rfl⟩ := hb
      simp only [RepL] at h
      obtain ⟨_, _, v, vs', _, rfl, hv, hr⟩ := h
      have ev := hv
      simp only [Rep] at ev
      rw [byteL_rep hb' hr, ev.2, List.map_cons]
      congr 2
      rw [UInt8.toNat_ofNat']
      omega
    · cases hb
theorem s_convS (h : StRelAt c st a w I hdr F) {s d : TypeId} {x : Operand} {str : ByteArray} {K : Eff → Prop} (ho : o.op = .convert s d x) (hx : a.eval x = .string str) (hK : convS P o.dst s d str K) : Goes P o c st a w K := by
  unfold convS at hK
  split at hK
  case h_2 => exact hK.elim
  rename_i dd e hd he
  obtain ⟨hok, hie, hK⟩ := hK
  obtain ⟨i, ds, hi, hds⟩ := tok_spec hok
  have hud := telem_spec he
  have hue : P.underlying e = some (.int .u8) := by
    unfold tint at hie
    split at hie
    · rename_i k hk; cases hie; exact hk
    · cases hie
  have hexec : (execOp a.eval o).run P w = .ok (.value (.slice (some ⟨w.heap.size, 0, none⟩) str.size (grownCap w str.size 0 e))) (Lib.bytesWorld w e str) := by
    simp only [execOp, ho, hx, Sem.run_bind, Lib.run_convert_string_bytes w s d e str hds hud hue, Result.andThen, Sem.run_pure]
  have hge := grownCap_ge w str.size 0 e
  have hsz : (Lib.bytesCells w e str).size = grownCap w str.size 0 e := by
    have e : str.data.size = str.size := rfl
    simp [Lib.bytesCells]; omega
  have hold : ∀ b : Nat, b < w.heap.size → (Lib.bytesWorld w e str).heap[b]? = w.heap[b]? := fun b hb => Lib.bytesWorld_at_old w e str b hb
  refine goes_value _ hexec hK fun hok => ?_
  simp only [Eff.ok, hd, St.ws, newsOk] at hok
  obtain ⟨hdn, hfree, hnone, hno, _⟩ := hok
  have h' := h.grow (w' := Lib.bytesWorld w e str) hold (by rw [Lib.bytesWorld_size]; omega) rfl rfl ⟨rfl, Nat.le_succ _⟩
  have hln : (str.data.toList.map fun b => AV.val (.int .u8 b.toNat)).length = str.size := by
    rw [List.length_map]; rfl
  have h2 := h'.name hfree hnone (x := .own 1 true (str.data.toList.map fun b => .val (.int .u8 b.toNat))) (B := [w.heap.size]) (v := .slice (some ⟨w.heap.size, 0, none⟩) str.size (grownCap w str.size 0 e))
    (by
      simp only [Rep]
      refine .inr ⟨w.heap.size, str.size, _, _, e, [], rfl, rfl, ⟨_, Lib.bytesWorld_at_new w e str, .inr (Nat.le_refl _)⟩, by rw [hln]; omega, hge, by rw [hsz]; omega, ?_⟩
      have e1 : (Lib.bytesCells w e str).toList.take (str.data.toList.map fun b => AV.val (.int .u8 b.toNat)).length = str.data.toList.map fun b => Value.int .u8 b.toNat := by
        rw [List.length_map]
        unfold Lib.bytesCells
        rw [Array.toList_append, Array.toList_map]
        exact List.take_left' (by simp)
      rw [e1]
      have := repL_val (Lib.bytesWorld w e str) I (fun _ => none) (str.data.toList.map fun b => Value.int .u8 b.toNat)
      rw [List.map_map] at this
      exact this) hno rfl (by simp)
    (fun nm hx b hb hbB => by have := h.F_lt hx hb; simp at hbB; omega)
    (fun b hb hI => by have := h.hIlt b hI; simp at hb; omega) (fun b hb => by right; have := h.size; simp at hb; omega)
  simp only [St.app, hd, St.ws, St.nws]
  refine ⟨I, _, _, h2.put (hdn dd rfl) ?_⟩
  simp only [Rep]
  exact ⟨trivial, upd_same _ _ _⟩
theorem s_conv (h : StRelAt c st a w I hdr F) {s d : TypeId} {x : Operand} {K : Eff → Prop} (ho : o.op = .convert s d x) (hK : convOp P st o.dst s d (opv st x) K) : Goes P o c st a w K := by
  have hx := rep_opv h x
  unfold convOp at hK
  split at hK
  · rename_i str hstr
    rw [hstr] at hx
    exact s_convS h ho (rep_val hx) hK
  case h_3 =>
    unfold convB at hK
    split at hK
    case h_2 => exact hK.elim
    rename_i sz nn l nm e hs he
    obtain ⟨rfl, hie, hsd, hK⟩ := hK
    split at hK
    case h_2 => exact hK.elim
    rename_i bs hbs
    have hus := telem_spec he
    have hue : P.underlying e = some (.int .u8) := by
      unfold tint at hie
      split at hie
      · rename_i k hk; cases hie; exact hk
      · cases hie
    have hud : P.underlying d = some .string := by
      unfold tstr at hsd
      split at hsd
      · assumption
      · cases hsd
    rcases slOf_spec h hs hx with ⟨hv, rfl, _⟩ | ⟨ad, n, cp, us, B, hv, hn, hc, hcs, hr, _⟩
    · simp only [byteL, Option.some.injEq] at hbs
      subst hbs
      refine goes_pure h (v := .string ⟨#[]⟩) (w' := w) _ rfl rfl ?_ (Same.refl w) hK (by simp [Rep])
      simp only [execOp, ho, hv, nilSlice]
      have e1 : (convert s d (.slice none 0 0)).run P w = .ok (.string ⟨#[]⟩) w := by
        rw [run_convert_bytes_string w s d e none 0 0 hus hue hud]
        simp [Conv.bytesToString]
        rfl
      simp only [Sem.run_bind, e1, Result.andThen, Sem.run_pure]
    · have hus' := byteL_rep hbs hr
      have hln : l.length = bs.length := by
        have := hr.length
        rw [← this, hus', List.length_map]
      have hnb : n = bs.length := by omega
      subst hnb
      refine goes_pure h (v := .string ⟨bs.toArray⟩) (w' := w) _ rfl rfl ?_ (Same.refl w) hK (by simp [Rep])
      have e1 : (convert s d (.slice (some ad) bs.length cp)).run P w = .ok (.string ⟨bs.toArray⟩) w :=
        run_convert_bytes_back w s d e ad cp bs hus hue hud fun j hj => hcs j _ (by rw [hus']; simp [hj])
      simp only [execOp, ho, hv, Sem.run_bind, e1, Result.andThen, Sem.run_pure]
  rename_i kx n hb
  rw [hb] at hx
  obtain ⟨hok, hK⟩ := hK
  obtain ⟨i, ds, hi, hds⟩ := tok_spec hok
  split at hK
  case h_2 => exact hK.elim
  rename_i k hk
  unfold tint at hk
  split at hk
  case h_2 => cases hk
  rename_i k' hd
  cases hk
  refine goes_pure h (v := .int k (k.wrap n)) (w' := w) _ rfl rfl ?_ (Same.refl w) hK (by simp [Rep])
  simp only [execOp, ho, rep_val hx, convert, Sem.run_bind, run_underlying hds, run_underlying hd, Result.andThen]
  cases ds <;> simp [Conv.intToInt]

theorem s_len (h : StRelAt c st a w I hdr F) {x : Operand} {t : TypeId} {K : Eff → Prop} (ho : o.op = .call { callee := .builtin .len, args := #[x], argTypes := #[t] }) (hK : lenOp P st t (opv st x) K) : Goes P o c st a w K := by
  have hx := rep_opv h x
  unfold lenOp at hK
  split at hK
  · rename_i s hs
    rw [hs] at hx
    have ex := rep_val hx
    obtain ⟨ht, hK⟩ := hK
    have hu : P.underlying t = some .string := by
      unfold tstr at ht
      split at ht
      · assumption
      · cases ht
    refine goes_pure h (v := .int .i64 s.size) (w' := w) _ rfl rfl ?_ (Same.refl w) hK (by simp [Rep])
    simp [execOp, ho, resolve, ex, invoke, builtin, Builtin.len_, run_underlying hu, goInt]
  · split at hK
    case h_3 =>
      unfold mapLen at hK
      split at hK
      case h_2 => exact hK.elim
      rename_i nm q hs hmt
      split at hK
      case h_2 => exact hK.elim
      rename_i es hno
      have hu := mapT_spec hmt
      rw [hs] at hx
      simp only [Rep] at hx
      obtain ⟨v', hv', hr⟩ := h.ob nm _ hno
      rw [hx.2] at hv'
      cases hv'
      simp only [Rep] at hr
      obtain ⟨b, ents, clock, B', hv, hB, hb, hr⟩ := hr
      have hl : ents.size = es.length := by have := hr.length; simpa using this
      have run : (execOp a.eval o).run P w = .ok (.value (.int .i64 (es.length : Nat))) w := by
        simp [execOp, ho, resolve, hv, invoke, builtin, Builtin.len_, run_underlying hu, run_getMap hb, goInt, hl]
      exact goes_pure h _ rfl rfl run (Same.refl w) hK (by simp [Rep])
    case h_2 =>
      rename_i e hs0 he
      unfold sfxLen at hK
      split at hK
      case h_2 => exact hK.elim
      rename_i nm off hs
      split at hK
      case h_2 => exact hK.elim
      rename_i sz nn l hno
      obtain ⟨rfl, hK⟩ := hK
      have hu := telem_spec he
      rw [hs] at hx
      simp only [Rep] at hx
      obtain ⟨_, ad, n, cp, hh, hin, hnc, hv⟩ := hx
      obtain ⟨u, hu', hr⟩ := h.ob nm _ hno
      rw [hh] at hu'
      cases hu'
      simp only [Rep] at hr
      rcases hr with ⟨hbad, _⟩ | ⟨b, n', cp', C, ty, B', hv', hF, hC, hns, hnc', hcC, hr⟩
      · cases hbad
      simp only [Value.slice.injEq, Option.some.injEq] at hv'
      obtain ⟨rfl, rfl, rfl⟩ := hv'
      rw [Nat.mul_one] at hns
      have run : (execOp a.eval o).run P w = .ok (.value (.int .i64 ((n - off : Nat) : Int))) w := by
        simp [execOp, ho, resolve, hv, invoke, builtin, Builtin.len_, run_underlying hu, goInt]
      refine goes_pure h _ rfl rfl run (Same.refl w) hK ?_
      simp only [Rep]
      rw [← hns]
      exact ⟨trivial, rfl⟩
    rename_i sz nn l nm e hs he
    obtain ⟨h0, hK⟩ := hK
    have hu := telem_spec he
    have run : ∀ base n cp, a.eval x = .slice base n cp → (execOp a.eval o).run P w = .ok (.value (.int .i64 n)) w := fun base n cp hv => by
      simp [execOp, ho, resolve, hv, invoke, builtin, Builtin.len_, run_underlying hu, goInt]
    rcases slOf2_spec h hs hx with ⟨hv, rfl, _⟩ | ⟨ad, n, cp, us, hv, hn, hc, hcs, hm⟩
    · refine goes_pure h _ rfl rfl (run _ _ _ hv) (Same.refl w) hK ?_
      simp [Rep]
    · refine goes_pure h _ rfl rfl (run _ _ _ hv) (Same.refl w) hK ?_
      simp only [Rep]
      rw [← hn, Nat.mul_div_cancel _ h0]
      exact ⟨trivial, rfl⟩

theorem s_makeFunc (h : StRelAt c st a w I hdr F) {f : Fn} {first caps : Array Operand} {K : Eff → Prop} (ho : o.op = .makeFunc f first caps) (hK : makeFuncOp f (first.toList.map (opv st)) (caps.toList.map (opv st)) K) : Goes P o c st a w K := by
  unfold makeFuncOp at hK
  split at hK
  case h_2 => exact hK.elim
  rename_i g
  split at hK
  case h_2 =>
    rename_i x xs hfx
    obtain ⟨hc, hn, hK⟩ := hK
    have hc' : caps = #[] := by simpa using hc
    subst hc'
    refine goes_pure h (v := .func (.func g) (first.map a.eval) #[]) (w' := w) _ rfl rfl ?_ (Same.refl w) hK ?_
    · simp [execOp, ho, Instr.makeFunc]
    · simp only [Rep]
      refine ⟨trivial, _, rfl, ?_⟩
      rw [← hfx] at hn ⊢
      have := rep_opvs h first.toList
      have h2 := RepL.nohdr (fun _ => none) _ _ _ hn this
      simpa using h2
  rename_i hfe
  have hf' : first = #[] := by simpa using hfe
  subst hf'
  cases hn : nrfL (caps.toList.map (opv st)) with
  | true =>
    rw [hn] at hK
    refine goes_pure h (v := .func (.func g) #[] (caps.map a.eval)) (w' := w) _ rfl rfl ?_ (Same.refl w) hK ?_
    · simp [execOp, ho, Instr.makeFunc]
    · simp only [Rep]
      refine ⟨trivial, _, rfl, ?_⟩
      have := rep_opvs h caps.toList
      have h2 := RepL.nohdr (fun _ => none) _ _ _ hn this
      simpa using h2
  | false =>
    rw [hn] at hK
    refine goes_pure h (v := .func (.func g) #[] (caps.map a.eval)) (w' := w) _ rfl rfl ?_ (Same.refl w) hK ?_
    · simp [execOp, ho, Instr.makeFunc]
    · simp only [Rep]
      refine ⟨_, rfl, ?_⟩
      have := rep_opvs h caps.toList
      simpa using this

/-- A new block, under a name, or one that nobody writes. -/
theorem new_box (h : StRelAt c st a w I hdr F) {fz : Nat → Bool} {l : List AV} {cs : Array Value} {ty : TypeId} {K : Eff → Prop} (hK : boxOp fz o.dst l K) (hl : RepL w I hdr l [] cs.toList)
    (hr : (execOp a.eval o).run P w = .ok (.value (.pointer (some ⟨w.heap.size, 0, none⟩))) (w.alloc (.cells cs ty))) : Goes P o c st a w K := by
  unfold boxOp at hK
  split at hK
  case h_2 => exact hK.elim
  rename_i d hd
  have hpush : (w.alloc (.cells cs ty)).heap = w.heap.push (.cells cs ty) := rfl
  have hat : Row (w.alloc (.cells cs ty)) w.heap.size cs ty := .mk0 (by rw [hpush]; simp)
  have hold : ∀ b : Nat, b < w.heap.size → (w.alloc (.cells cs ty)).heap[b]? = w.heap[b]? := fun b hb => by rw [hpush, Array.getElem?_push, if_neg (by omega)]
  split at hK
  · obtain ⟨hn, hK⟩ := hK
    refine goes_value _ hr hK fun hok => ?_
    have h' := h.newI (o := .cells cs ty) (w' := w.alloc (.cells cs ty)) rfl rfl rfl (by first | exact ⟨rfl, Nat.le_refl _⟩ | exact ⟨rfl, Nat.le_succ _⟩)
    simp only [St.app, hd, St.ws, St.nws]
    refine ⟨_, hdr, F, h'.put (hok.1 d hd) ?_⟩
    simp only [Rep]
    have hl' := RepL.frame (w' := w.alloc (.cells cs ty)) (I' := fun b => I b ∨ b = w.heap.size) (fun _ hb => .inl hb) (fun b hb => hold b (h.hIlt b hb)) _ _ _ (fun b hb => by cases hb) (RepL.nohdr (fun _ => none) _ _ _ hn hl)
    refine ⟨trivial, ⟨w.heap.size, 0, none⟩, cs.toList, rfl, .inr rfl, ?_, hl'⟩
    have := cellsAt_take hat cs.toList.length
    rwa [List.take_length] at this
  · refine goes_value _ hr hK fun hok => ?_
    simp only [Eff.ok, hd, St.ws, newsOk] at hok
    obtain ⟨hdn, hfree, hnone, hno, _⟩ := hok
    have h' := h.grow hold (by simp) rfl rfl (by first | exact ⟨rfl, Nat.le_refl _⟩ | exact ⟨rfl, Nat.le_succ _⟩)
    have hl' := RepL.frame (w' := w.alloc (.cells cs ty)) (I' := I) (fun _ hb => hb) (fun b hb => hold b (h.hIlt b hb)) _ _ _ (fun b hb => by cases hb) hl
    have h2 := h'.name hfree hnone (x := .box l) (B := [w.heap.size]) (v := .pointer (some ⟨w.heap.size, 0, none⟩))
      (by simp only [Rep]; exact ⟨w.heap.size, cs, ty, [], rfl, rfl, hat, hl'⟩) hno rfl (by simp) (fun nm hx b hb => by have := h.F_lt hx hb; simp; omega)
      (fun b hb hI => by have := h.hIlt b hI; simp at hb; omega) (fun b hb => by right; have := h.size; simp at hb; omega)
    simp only [St.app, hd, St.ws, St.nws]
    refine ⟨I, _, _, h2.put (hdn d rfl) ?_⟩
    simp only [Rep]
    exact ⟨trivial, _, _, upd_same _ _ _, rfl, by rw [add_zero]⟩

theorem s_box (h : StRelAt c st a w I hdr F) {fz : Nat → Bool} {t : TypeId} {x : Operand} {l : List AV} {K : Eff → Prop} (ho : o.op = .box t x) (hl : cellsOf (opv st x) = some l) (hK : boxOp fz o.dst l K) : Goes P o c st a w K := by
  refine new_box h hK (cs := (a.eval x).cells) (ty := t) (cellsOf_spec h.hone hl (rep_opv h x)) ?_
  simp [execOp, ho, Instr.box, newVar, newRow]

theorem s_alloc (h : StRelAt c st a w I hdr F) {fz : Nat → Bool} {t : TypeId} {v : Value} {K : Eff → Prop} (ho : o.op = .alloc t) (hv : tzero P t = some v) (hK : boxOp fz o.dst (v.cells.toList.map .val) K) : Goes P o c st a w K := by
  refine new_box h hK (cs := v.cells) (ty := t) (repL_val _ _ _ _) ?_
  unfold tzero at hv
  rw [Option.bind_eq_some_iff] at hv
  obtain ⟨i, hi, hz⟩ := hv
  simp [execOp, ho, Instr.alloc, zeroValue, typeInfo, hi, hz, newVar, newRow]

theorem fold_set : ∀ (vs : List Value) (off k : Nat) (cs : Array Value), off + k + vs.length ≤ cs.size →
    (vs.zipIdx k).foldl (fun cs p => cs.setIfInBounds (off + p.2) p.1) cs = (cs.toList.take (off + k) ++ vs ++ cs.toList.drop (off + k + vs.length)).toArray
  | [], off, k, cs, _ => by simp
  | v :: vs, off, k, cs, h => by
    simp only [List.length_cons] at h
    simp only [List.zipIdx_cons, List.foldl_cons]
    rw [fold_set vs off (k + 1) _ (by simp; omega)]
    have e := list_seg_step cs.toList (off + k) v vs (by simp; omega)
    simpa [Array.toList_setIfInBounds, Nat.add_assoc] using e

theorem RepL.sub' (l : List AV) {us : List Value} (h : RepL w I hdr l [] us) (n : Nat) : RepL w I hdr (l.drop n) [] (us.drop n) := by
  have := h.sub n (l.length + us.length)
  rwa [List.take_of_length_le (by rw [List.length_drop]; omega), List.take_of_length_le (by rw [List.length_drop]; omega)] at this

theorem RepL.sub0 (l : List AV) {us : List Value} (h : RepL w I hdr l [] us) (n : Nat) : RepL w I hdr (l.take n) [] (us.take n) := by
  have := h.sub 0 n
  simpa using this

/-- Laying parts down. -/
theorem fill_spec (hh : ∀ nm h, hdr nm = some h → h.oneCell' = true) {place : Nat → Option (Nat × Nat)} : ∀ {parts : List (Nat × AV)} {vals : List (Nat × Value)} {cells l : List AV} {cs : Array Value},
    parts.map (·.1) = vals.map (·.1) → (∀ (i : Nat) (x : Nat × AV) (y : Nat × Value), parts[i]? = some x → vals[i]? = some y → Rep w I hdr x.2 [] y.2) → RepL w I hdr cells [] cs.toList → fillA place cells parts = some l →
    ∃ cs', Instr.fill place cs vals = some cs' ∧ RepL w I hdr l [] cs'.toList
  | [], vals, cells, l, cs, he, _, hr, hf => by
    have : vals = [] := by simpa using he.symm
    subst this
    simp only [fillA, Option.some.injEq] at hf
    subst hf
    exact ⟨cs, rfl, hr⟩
  | (i, x) :: parts, [], cells, l, cs, he, _, hr, hf => by simp at he
  | (i, x) :: parts, (j, v) :: vals, cells, l, cs, he, hp, hr, hf => by
    simp only [List.map_cons, List.cons.injEq] at he
    obtain ⟨rfl, he⟩ := he
    simp only [fillA] at hf
    split at hf
    case h_2 => cases hf
    rename_i off size m hpl hc
    split at hf
    case isFalse => cases hf
    rename_i hsz
    have hx := hp 0 _ _ rfl rfl
    have hv := cellsOf_spec hh hc hx
    have hlv := hv.length
    have hlc := hr.length
    have hvs : v.cells.size = size := by simpa [hsz.1] using hlv
    have hfold : v.cells.zipIdx.foldl (fun cs p => cs.setIfInBounds (off + p.2) p.1) cs = (cs.toList.take off ++ v.cells.toList ++ cs.toList.drop (off + size)).toArray := by
      have := fold_set v.cells.toList off 0 cs (by simp at hlv hlc ⊢; omega)
      rw [← Array.foldl_toList, Array.toList_zipIdx]
      simpa [hvs] using this
    have hr' : RepL w I hdr (cells.take off ++ m ++ cells.drop (off + size)) [] (cs.toList.take off ++ v.cells.toList ++ cs.toList.drop (off + size)) := by
      have := ((hr.sub0 cells off).append hv).append (hr.sub' cells (off + size))
      simpa using this
    obtain ⟨cs', h1, h2⟩ := fill_spec hh (place := place) (cs := (cs.toList.take off ++ v.cells.toList ++ cs.toList.drop (off + size)).toArray) he (fun k a b ha hb => hp (k + 1) a b (by simpa using ha) (by simpa using hb)) (by simpa using hr') hf
    refine ⟨cs', ?_, h2⟩
    have hcs : cs.size = cells.length := by simpa using hlc
    have hcond : (v.cells.size != size || decide (off + v.cells.size > cs.size)) = false := by
      rw [hvs, hcs]; simp; omega
    simp only [Instr.fill, hpl]
    rw [if_neg (by simp [hvs, hcs]; omega), hfold]
    exact h1

theorem parts_fst (parts : List (Nat × Operand)) : (parts.map fun p => (p.1, opv st p.2)).map (·.1) = (parts.map fun p => (p.1, a.eval p.2)).map (·.1) := by simp

theorem parts_rep (h : StRelAt c st a w I hdr F) (parts : List (Nat × Operand)) (i : Nat) (x : Nat × AV) (y : Nat × Value) (hx : (parts.map fun p => (p.1, opv st p.2))[i]? = some x) (hy : (parts.map fun p => (p.1, a.eval p.2))[i]? = some y) : Rep w I hdr x.2 [] y.2 := by
  rw [List.getElem?_map] at hx hy
  cases hp : parts[i]? with
  | none => simp [hp] at hx
  | some p =>
    simp [hp] at hx hy
    subst hx
    subst hy
    exact rep_opv h p.2

theorem s_build (h : StRelAt c st a w I hdr F) {t : TypeId} {parts : Array (Nat × Operand)} {K : Eff → Prop} (ho : o.op = .build t parts) (hK : buildOp P t (parts.toList.map fun p => (p.1, opv st p.2)) K) : Goes P o c st a w K := by
  unfold buildOp at hK
  split at hK
  case h_2 => exact hK.elim
  rename_i fs z hfs hz
  split at hK
  case h_2 => exact hK.elim
  rename_i l hl
  unfold tfields at hfs
  split at hfs
  case h_2 => cases hfs
  rename_i gs hg
  unfold tzero at hz
  rw [Option.bind_eq_some_iff] at hz
  obtain ⟨i, hi, hz⟩ := hz
  obtain ⟨cs', h1, h2⟩ := fill_spec h.hone (w := w) (I := I) (cs := z.cells) (parts_fst (a := a) parts.toList) (fun i x y => parts_rep h parts.toList i x y) (repL_val w I hdr _) hl
  have hb : P.built t (parts.map fun p => (p.1, a.eval p.2)).toList = some cs' := by
    unfold Program.built
    simp only [hi, hg, hz, hfs, Array.toList_map]
    simpa using h1
  refine goes_pure h (v := .agg cs') (w' := w) _ rfl rfl ?_ (Same.refl w) hK ?_
  · have := run_build w t _ cs' hb
    simp only [execOp, ho]
    simp [this]
  · simp only [Rep]
    exact ⟨cs', rfl, h2⟩

/-- A new slice. -/
theorem new_own (h : StRelAt c st a w I hdr F) {sz : Nat} {l : List AV} {n cp : Nat} {cs : Array Value} {ty : TypeId} {K : Eff → Prop} {d : Nat} (hd : o.dst = some d) (hK : K { val := .ref d, news := [(d, .own sz true l)] })
    (hn : n * sz = l.length) (hnc : n ≤ cp) (hcp : cp * sz ≤ cs.size) (hl : RepL w I (fun _ => none) l [] (cs.toList.take l.length))
    (hr : (execOp a.eval o).run P w = .ok (.value (.slice (some ⟨w.heap.size, 0, none⟩) n cp)) (w.alloc (.cells cs ty))) : Goes P o c st a w K := by
  have hpush : (w.alloc (.cells cs ty)).heap = w.heap.push (.cells cs ty) := rfl
  have hat : Row (w.alloc (.cells cs ty)) w.heap.size cs ty := .mk0 (by rw [hpush]; simp)
  have hold : ∀ b : Nat, b < w.heap.size → (w.alloc (.cells cs ty)).heap[b]? = w.heap[b]? := fun b hb => by rw [hpush, Array.getElem?_push, if_neg (by omega)]
  refine goes_value _ hr hK fun hok => ?_
  simp only [Eff.ok, hd, St.ws, newsOk] at hok
  obtain ⟨hdn, hfree, hnone, hno, _⟩ := hok
  have h' := h.grow hold (by simp) rfl rfl (by first | exact ⟨rfl, Nat.le_refl _⟩ | exact ⟨rfl, Nat.le_succ _⟩)
  have hl' := RepL.frame (w' := w.alloc (.cells cs ty)) (I' := I) (fun _ hb => hb) (fun b hb => hold b (h.hIlt b hb)) _ _ _ (fun b hb => by cases hb) hl
  have h2 := h'.name hfree hnone (x := .own sz true l) (B := [w.heap.size]) (v := .slice (some ⟨w.heap.size, 0, none⟩) n cp)
    (by simp only [Rep]; exact .inr ⟨w.heap.size, n, cp, cs, ty, [], rfl, rfl, hat, hn, hnc, hcp, hl'⟩) hno rfl (by simp) (fun nm hx b hb => by have := h.F_lt hx hb; simp; omega)
    (fun b hb hI => by have := h.hIlt b hI; simp at hb; omega) (fun b hb => by right; have := h.size; simp at hb; omega)
  simp only [St.app, hd, St.ws, St.nws]
  refine ⟨I, _, _, h2.put (hdn d rfl) ?_⟩
  simp only [Rep]
  exact ⟨trivial, upd_same _ _ _⟩

theorem flatten_rep {m : List AV} {vs : List Value} (h : RepL w I hdr m [] vs) : ∀ n : Nat, RepL w I hdr ((List.replicate n m).flatten) [] ((List.replicate n vs).flatten)
  | 0 => by simp [RepL]
  | n + 1 => by
    simp only [List.replicate_succ, List.flatten_cons]
    have := h.append (flatten_rep h n)
    simpa using this

theorem range_mod_flatten (vs : Array Value) (hv : 0 < vs.size) : ∀ n : Nat, ((Array.range (n * vs.size)).map (vs[· % vs.size]!)).toList = (List.replicate n vs.toList).flatten := by
  intro n
  induction n with
  | zero => simp
  | succ n ih =>
    rw [List.replicate_succ', List.flatten_append, ← ih]
    simp only [Array.toList_map, Array.toList_range, List.flatten_cons, List.flatten_nil, List.append_nil]
    rw [Nat.succ_mul, List.range_add, List.map_append, List.map_map]
    congr 1
    apply List.ext_getElem
    · simp
    · intro i h1 h2
      simp at h1
      simp [Nat.mod_eq_of_lt h1, h1]

theorem ws_none : ∀ (l : List (Nat × Option AV)), (∀ p ∈ l, p.2 = none) → ∀ {st : St}, StRelAt c st a w I hdr F → StRelAt c (st.ws l) a w I hdr F
  | [], _, _, h => h
  | p :: l, hl, st, h => by
    obtain ⟨nm, x⟩ := p
    have : x = none := hl (nm, x) (by simp)
    subst this
    exact ws_none l (fun q hq => hl q (by simp [hq])) (h.drop nm)

theorem ws_o : ∀ (l : List (Nat × Option AV)), (∀ p ∈ l, p.2 = none) → ∀ {st : St} {nm : Nat}, (st.ws l).o nm ≠ none → st.o nm ≠ none ∧ ∀ p ∈ l, p.1 ≠ nm
  | [], _, _, _, h => ⟨h, fun _ hp => by cases hp⟩
  | p :: l, hl, st, nm, h => by
    obtain ⟨k, x⟩ := p
    have : x = none := hl (k, x) (by simp)
    subst this
    obtain ⟨h1, h2⟩ := ws_o l (fun q hq => hl q (by simp [hq])) h
    simp only [St.node, upd] at h1
    split at h1
    · exact absurd rfl h1
    · rename_i hne
      exact ⟨h1, fun q hq => by rcases List.mem_cons.1 hq with rfl | hq; exact fun e => hne e.symm; exact h2 q hq⟩

theorem fillA_length {place : Nat → Option (Nat × Nat)} : ∀ {ps : List (Nat × AV)} {cells m : List AV}, fillA place cells ps = some m → m.length = cells.length := by
  intro ps
  induction ps with
  | nil => intro cells m hf; simp [fillA] at hf; rw [hf]
  | cons p ps ih =>
    obtain ⟨k, x⟩ := p
    intro cells m hf
    simp only [fillA] at hf
    split at hf
    case h_2 => cases hf
    split at hf
    case isFalse => cases hf
    rename_i hsz
    rw [ih hf]
    simp only [List.length_append, List.length_take, List.length_drop]
    omega

theorem ws_o_ne' (st : St) (l : List (Nat × Option AV)) (nm : Nat) (h : nm ∉ l.map (·.1)) : (st.ws l).o nm = st.o nm := by
  induction l generalizing st with
  | nil => rfl
  | cons p l ih =>
    simp only [List.map_cons, List.mem_cons, not_or] at h
    simp only [St.ws]
    rw [ih _ h.2]
    simp [St.node, upd, h.1]
theorem ws_append (st : St) (l l' : List (Nat × Option AV)) : st.ws (l ++ l') = (st.ws l).ws l' := by
  induction l generalizing st with
  | nil => rfl
  | cons p l ih => simp only [List.cons_append, St.ws, ih]
theorem dropd_live {ns : List Nat} {k : Nat} (hk : (st.ws (ns.map fun nm => (nm, none))).o k ≠ none) : st.o k ≠ none ∧ k ∉ ns := by
  have key : ∀ p ∈ ns.map (fun nm => ((nm, none) : Nat × Option AV)), p.2 = none := by
    intro p hp
    obtain ⟨x, _, rfl⟩ := List.mem_map.1 hp
    rfl
  obtain ⟨h1, h2⟩ := ws_o _ key hk
  exact ⟨h1, fun hm => h2 (k, none) (List.mem_map.2 ⟨k, hm, rfl⟩) rfl⟩
theorem dropd_none (ns : List Nat) : ∀ p ∈ ns.map (fun nm => ((nm, none) : Nat × Option AV)), p.2 = none := by
  intro p hp
  obtain ⟨x, _, rfl⟩ := List.mem_map.1 hp
  rfl

/-- A slice that takes over what its one element owns. -/
theorem s_moveSlice (h : StRelAt c st a w I hdr F) {t e : TypeId} {d : Nat} {len : Nat} {parts : Array (Nat × Operand)} {K : Eff → Prop} (ho : o.op = .buildSlice t len parts) (hd : o.dst = some d) (he : telem P t = some e)
    (hK : moveSliceOp P st d e len (parts.toList.map fun p => (p.1, opv st p.2)) K) : Goes P o c st a w K := by
  have hu := telem_spec he
  unfold moveSliceOp at hK
  split at hK
  case h_2 => exact hK.elim
  rename_i x z hps hz
  split at hK
  case h_2 => exact hK.elim
  rename_i l hc
  obtain ⟨rfl, hok, h0, hzs, hbig, hll, hnd, hn, hK⟩ := hK
  obtain ⟨i, ds, hi, hds⟩ := tok_spec hok
  unfold tzero at hz
  rw [hi] at hz
  simp only [Option.bind_some] at hz
  have hcell : RepL w I hdr ((List.replicate 1 (z.cells.toList.map AV.val)).flatten) [] ((Array.range (1 * tsize P e)).map (z.cells[· % z.cells.size]!)).toList := by
    rw [← hzs, range_mod_flatten z.cells (by omega)]
    exact flatten_rep (repL_val w I hdr _) 1
  have hfill : fillA (fun i => some (i * tsize P e, tsize P e)) ((List.replicate 1 (z.cells.toList.map AV.val)).flatten) (parts.toList.map fun p => (p.1, opv st p.2)) = some l := by
    rw [hps]
    simp only [fillA, hc, Nat.zero_mul]
    rw [if_pos ⟨hll, by simp [hzs]⟩]
    simp [hzs]
  obtain ⟨cs', h1, h2⟩ := fill_spec h.hone (parts_fst (a := a) parts.toList) (fun i x y => parts_rep h parts.toList i x y) hcell hfill
  have hlen := h2.length
  have hcs : cs'.size = tsize P e := by simpa [hll] using hlen
  obtain ⟨B, hr, hBn, hBk⟩ := hand_list h (hand1 h) h2 hnd
  have hr0 := RepL.nohdr (fun _ => none) _ _ _ hn hr
  have hrun : (execOp a.eval o).run P w = .ok (.value (.slice (some ⟨w.heap.size, 0, none⟩) 1 1)) (w.alloc (.cells cs' e)) := by
    have hne : ¬ (1 * tsize P e > 2 ^ 24) := by omega
    have hz0 : ¬ (1 * tsize P e = 0) := by omega
    simp only [Nat.one_mul] at h1 hne hz0
    simp [execOp, ho, Instr.buildSlice, run_underlying hu, run_sizeOf' hi, hne, hz0, zeroValue, typeInfo, hi, hz, h1, newRow]
  have hold : ∀ b : Nat, b < w.heap.size → (w.alloc (.cells cs' e)).heap[b]? = w.heap[b]? := fun b hb => by
    show (w.heap.push _)[b]? = _
    rw [Array.getElem?_push, if_neg (by omega)]
  have hat : Row (w.alloc (.cells cs' e)) w.heap.size cs' e := .mk0 (by
    show (w.heap.push _)[w.heap.size]? = _
    simp)
  refine goes_value _ hrun hK fun hok => ?_
  simp only [Eff.ok, hd, newsOk] at hok
  obtain ⟨hdn, hfree, hnone, hno, _⟩ := hok
  have hdrop := ws_none _ (dropd_none (l.flatMap nmB1)) h
  have hgrow := hdrop.grow hold (by simp) rfl rfl (by first | exact ⟨rfl, Nat.le_refl _⟩ | exact ⟨rfl, Nat.le_succ _⟩)
  have hr1 := RepL.frame (w' := w.alloc (.cells cs' e)) (I' := I) (fun _ hb => hb) (fun b hb => hold b (h.hIlt b hb)) _ _ _ (fun b hb => hold b (by obtain ⟨k, _, hk, hb'⟩ := hBk b hb; exact h.F_lt hk hb')) hr0
  have hname := hgrow.name hfree hnone (x := .own (tsize P e) true (l.map (rsv1 st.o))) (B := w.heap.size :: B) (v := .slice (some ⟨w.heap.size, 0, none⟩) 1 1)
    (by
      simp only [Rep]
      refine .inr ⟨w.heap.size, 1, 1, cs', e, B, rfl, rfl, hat, by simp [hll], Nat.le_refl _, by omega, ?_⟩
      rw [List.take_of_length_le (by simp; omega)]
      exact hr1) hno rfl
    (List.nodup_cons.2 ⟨fun hb => by obtain ⟨k, _, hk, hb'⟩ := hBk _ hb; have := h.F_lt hk hb'; omega, hBn⟩)
    (fun nm hx b hb hbB => by
      obtain ⟨hlive, hnot⟩ := dropd_live hx
      rcases List.mem_cons.1 hbB with rfl | hbB
      · have := h.F_lt hlive hb; omega
      · obtain ⟨k, hkm, hk, hb'⟩ := hBk b hbB
        exact h.dj k nm (fun e => hnot (e ▸ hkm)) hk hlive b hb' hb)
    (fun b hb hI => by
      rcases List.mem_cons.1 hb with rfl | hb
      · have := h.hIlt _ hI; omega
      · obtain ⟨k, _, hk, hb'⟩ := hBk b hb
        exact h.oi k hk b hb' hI)
    (fun b hb => by
      rcases List.mem_cons.1 hb with rfl | hb
      · right; exact h.size
      · obtain ⟨k, _, hk, hb'⟩ := hBk b hb
        exact h.oo k hk b hb')
  simp only [St.app, hd, St.nws]
  refine ⟨I, _, _, hname.put (by simp only [St.node, ws_n]; exact hdn d rfl) ?_⟩
  simp only [Rep]
  exact ⟨trivial, upd_same _ _ _⟩

theorem s_buildSlice (h : StRelAt c st a w I hdr F) {t : TypeId} {len : Nat} {parts : Array (Nat × Operand)} {K : Eff → Prop} (ho : o.op = .buildSlice t len parts)
    (hK : buildSliceOp P st o.dst t len (parts.toList.map fun p => (p.1, opv st p.2)) K) : Goes P o c st a w K := by
  unfold buildSliceOp at hK
  split at hK
  case h_2 => exact hK.elim
  rename_i d e hd he
  have hu := telem_spec he
  split at hK
  case isTrue => exact s_moveSlice h ho hd he hK
  split at hK
  case h_2 => exact hK.elim
  rename_i z hz
  obtain ⟨hok, h0, hzs, hbig, hK⟩ := hK
  obtain ⟨i, ds, hi, hds⟩ := tok_spec hok
  unfold tzero at hz
  rw [hi] at hz
  simp only [Option.bind_some] at hz
  split at hK
  case h_2 => exact hK.elim
  rename_i l hl
  obtain ⟨hn, hK⟩ := hK
  have hcell : RepL w I hdr ((List.replicate len (z.cells.toList.map AV.val)).flatten) [] ((Array.range (len * tsize P e)).map (z.cells[· % z.cells.size]!)).toList := by
    rw [← hzs, range_mod_flatten z.cells (by omega)]
    exact flatten_rep (repL_val w I hdr _) len
  obtain ⟨cs', h1, h2⟩ := fill_spec h.hone (parts_fst (a := a) parts.toList) (fun i x y => parts_rep h parts.toList i x y) hcell hl
  have hlen := h2.length
  have hll : l.length = len * tsize P e := by
    have hcl := hcell.length
    have : ∀ {place : Nat → Option (Nat × Nat)} {ps : List (Nat × AV)} {cells m : List AV}, fillA place cells ps = some m → m.length = cells.length := by
      intro place ps
      induction ps with
      | nil => intro cells m hf; simp [fillA] at hf; rw [hf]
      | cons p ps ih =>
        obtain ⟨k, x⟩ := p
        intro cells m hf
        simp only [fillA] at hf
        split at hf
        case h_2 => cases hf
        split at hf
        case isFalse => cases hf
        rename_i hsz
        rw [ih hf]
        simp only [List.length_append, List.length_take, List.length_drop]
        omega
    rw [this hl, ← hcl]
    simp
  have hcs : cs'.size = len * tsize P e := by simpa [hll] using hlen
  refine new_own h hd hK (n := len) (cp := len) (cs := cs') (ty := e) hll.symm (Nat.le_refl _) (by omega) ?_ ?_
  · rw [List.take_of_length_le (by simp; omega)]
    exact RepL.nohdr (fun _ => none) _ _ _ hn h2
  · have hne : ¬ (len * tsize P e > 2 ^ 24) := by omega
    by_cases hz0 : len * tsize P e = 0
    · have hl0 : len = 0 := by
        rcases Nat.mul_eq_zero.1 hz0 with h | h
        · exact h
        · omega
      subst hl0
      have hr0 : Array.range 0 = #[] := rfl
      have h1' : Instr.fill (fun i => some (i * tsize P e, tsize P e)) #[] (parts.toList.map fun p => (p.1, a.eval p.2)) = some cs' := by simpa [hr0] using h1
      simp [execOp, ho, Instr.buildSlice, run_underlying hu, run_sizeOf' hi, hr0, h1', newRow]
    · simp [execOp, ho, Instr.buildSlice, run_underlying hu, run_sizeOf' hi, hne, hz0, zeroValue, typeInfo, hi, hz, h1, newRow]

/-- A new slice that nobody will write. -/
theorem new_slI (h : StRelAt c st a w I hdr F) {sz : Nat} {l : List AV} {n cp : Nat} {cs : Array Value} {ty : TypeId} {K : Eff → Prop} {d : Nat} (hd : o.dst = some d) (hK : K { val := .sl sz true l })
    (hn : n * sz = l.length) (hnc : n ≤ cp) (hcp : cp * sz ≤ cs.size) (hl : RepL w I (fun _ => none) l [] (cs.toList.take l.length))
    (hr : (execOp a.eval o).run P w = .ok (.value (.slice (some ⟨w.heap.size, 0, none⟩) n cp)) (w.alloc (.cells cs ty))) : Goes P o c st a w K := by
  have hpush : (w.alloc (.cells cs ty)).heap = w.heap.push (.cells cs ty) := rfl
  have hat : Row (w.alloc (.cells cs ty)) w.heap.size cs ty := .mk0 (by rw [hpush]; simp)
  have hold : ∀ b : Nat, b < w.heap.size → (w.alloc (.cells cs ty)).heap[b]? = w.heap[b]? := fun b hb => by rw [hpush, Array.getElem?_push, if_neg (by omega)]
  refine goes_value _ hr hK fun hok => ?_
  have h' := h.newI (w' := w.alloc (.cells cs ty)) hpush rfl rfl (by first | exact ⟨rfl, Nat.le_refl _⟩ | exact ⟨rfl, Nat.le_succ _⟩)
  have hl' := RepL.frame (w' := w.alloc (.cells cs ty)) (I' := fun b => I b ∨ b = w.heap.size) (fun _ hb => .inl hb) (fun b hb => hold b (h.hIlt b hb)) _ _ _ (fun b hb => by cases hb) hl
  simp only [St.app, St.ws, St.nws, hd]
  refine ⟨_, hdr, F, h'.put (hok.1 d hd) ?_⟩
  simp only [Rep]
  exact ⟨trivial, .inr ⟨⟨w.heap.size, 0, none⟩, n, cp, _, rfl, hn, hnc, fun _ => .inr rfl, cellsAt_take hat l.length, hl'⟩⟩

theorem s_buildSliceF (h : StRelAt c st a w I hdr F) {t : TypeId} {len : Nat} {parts : Array (Nat × Operand)} {K : Eff → Prop} (ho : o.op = .buildSlice t len parts)
    (hK : buildSliceF P o.dst t len (parts.toList.map fun p => (p.1, opv st p.2)) K) : Goes P o c st a w K := by
  unfold buildSliceF at hK
  split at hK
  case h_2 => exact hK.elim
  rename_i d e hd he
  have hu := telem_spec he
  split at hK
  case h_2 => exact hK.elim
  rename_i z hz
  obtain ⟨hok, h0, hzs, hbig, hK⟩ := hK
  obtain ⟨i, ds, hi, hds⟩ := tok_spec hok
  unfold tzero at hz
  rw [hi] at hz
  simp only [Option.bind_some] at hz
  split at hK
  case h_2 => exact hK.elim
  rename_i l hl
  obtain ⟨hn, hK⟩ := hK
  have hcell : RepL w I hdr ((List.replicate len (z.cells.toList.map AV.val)).flatten) [] ((Array.range (len * tsize P e)).map (z.cells[· % z.cells.size]!)).toList := by
    rw [← hzs, range_mod_flatten z.cells (by omega)]
    exact flatten_rep (repL_val w I hdr _) len
  obtain ⟨cs', h1, h2⟩ := fill_spec h.hone (parts_fst (a := a) parts.toList) (fun i x y => parts_rep h parts.toList i x y) hcell hl
  have hlen := h2.length
  have hll : l.length = len * tsize P e := by
    have hcl := hcell.length
    have : ∀ {place : Nat → Option (Nat × Nat)} {ps : List (Nat × AV)} {cells m : List AV}, fillA place cells ps = some m → m.length = cells.length := by
      intro place ps
      induction ps with
      | nil => intro cells m hf; simp [fillA] at hf; rw [hf]
      | cons p ps ih =>
        obtain ⟨k, x⟩ := p
        intro cells m hf
        simp only [fillA] at hf
        split at hf
        case h_2 => cases hf
        split at hf
        case isFalse => cases hf
        rename_i hsz
        rw [ih hf]
        simp only [List.length_append, List.length_take, List.length_drop]
        omega
    rw [this hl, ← hcl]
    simp
  have hcs : cs'.size = len * tsize P e := by simpa [hll] using hlen
  refine new_slI h hd hK (n := len) (cp := len) (cs := cs') (ty := e) hll.symm (Nat.le_refl _) (by omega) ?_ ?_
  · rw [List.take_of_length_le (by simp; omega)]
    exact RepL.nohdr (fun _ => none) _ _ _ hn h2
  · have hne : ¬ (len * tsize P e > 2 ^ 24) := by omega
    by_cases hz0 : len * tsize P e = 0
    · have hl0 : len = 0 := by
        rcases Nat.mul_eq_zero.1 hz0 with h | h
        · exact h
        · omega
      subst hl0
      have hr0 : Array.range 0 = #[] := rfl
      have h1' : Instr.fill (fun i => some (i * tsize P e, tsize P e)) #[] (parts.toList.map fun p => (p.1, a.eval p.2)) = some cs' := by simpa [hr0] using h1
      simp [execOp, ho, Instr.buildSlice, run_underlying hu, run_sizeOf' hi, hr0, h1', newRow]
    · simp [execOp, ho, Instr.buildSlice, run_underlying hu, run_sizeOf' hi, hne, hz0, zeroValue, typeInfo, hi, hz, h1, newRow]

theorem s_buildSliceW (h : StRelAt c st a w I hdr F) {t : TypeId} {len : Nat} {parts : Array (Nat × Operand)} {K : Eff → Prop} (ho : o.op = .buildSlice t len parts)
    (hK : buildSliceW P o.dst t len (parts.toList.map fun p => (p.1, opv st p.2)) K) : Goes P o c st a w K := by
  unfold buildSliceW at hK
  split at hK
  case h_2 => exact hK.elim
  rename_i d e hd he
  have hu := telem_spec he
  split at hK
  case h_2 => exact hK.elim
  rename_i x z hps hz
  split at hK
  case h_2 => exact hK.elim
  rename_i l hc
  obtain ⟨rfl, hok, h0, hzs, hbig, hll, hK⟩ := hK
  obtain ⟨i, ds, hi, hds⟩ := tok_spec hok
  unfold tzero at hz
  rw [hi] at hz
  simp only [Option.bind_some] at hz
  have hcell : RepL w I hdr ((List.replicate 1 (z.cells.toList.map AV.val)).flatten) [] ((Array.range (1 * tsize P e)).map (z.cells[· % z.cells.size]!)).toList := by
    rw [← hzs, range_mod_flatten z.cells (by omega)]
    exact flatten_rep (repL_val w I hdr _) 1
  have hfill : fillA (fun i => some (i * tsize P e, tsize P e)) ((List.replicate 1 (z.cells.toList.map AV.val)).flatten) (parts.toList.map fun p => (p.1, opv st p.2)) = some l := by
    rw [hps]
    simp only [fillA, hc, Nat.zero_mul]
    rw [if_pos ⟨hll, by simp [hzs]⟩]
    simp [hzs]
  obtain ⟨cs', h1, h2⟩ := fill_spec h.hone (parts_fst (a := a) parts.toList) (fun i x y => parts_rep h parts.toList i x y) hcell hfill
  have hlen := h2.length
  have hcs : cs'.size = tsize P e := by simpa [hll] using hlen
  have hrun : (execOp a.eval o).run P w = .ok (.value (.slice (some ⟨w.heap.size, 0, none⟩) 1 1)) (w.alloc (.cells cs' e)) := by
    have hne : ¬ (1 * tsize P e > 2 ^ 24) := by omega
    have hz0 : ¬ (1 * tsize P e = 0) := by omega
    simp only [Nat.one_mul] at h1 hne hz0
    simp [execOp, ho, Instr.buildSlice, run_underlying hu, run_sizeOf' hi, hne, hz0, zeroValue, typeInfo, hi, hz, h1, newRow]
  have hpush : (w.alloc (.cells cs' e)).heap = w.heap.push (.cells cs' e) := rfl
  have hat : Row (w.alloc (.cells cs' e)) w.heap.size cs' e := .mk0 (by rw [hpush]; simp)
  have hold : ∀ b : Nat, b < w.heap.size → (w.alloc (.cells cs' e)).heap[b]? = w.heap[b]? := fun b hb => by rw [hpush, Array.getElem?_push, if_neg (by omega)]
  refine goes_value _ hrun hK fun hok => ?_
  simp only [Eff.ok, hd, St.ws, newsOk] at hok
  obtain ⟨hdn, hfree, hnone, hno, _⟩ := hok
  have h' := h.grow hold (by simp) rfl rfl (by first | exact ⟨rfl, Nat.le_refl _⟩ | exact ⟨rfl, Nat.le_succ _⟩)
  have hl' := RepL.frame (w' := w.alloc (.cells cs' e)) (I' := I) (fun _ hb => hb) (fun b hb => hold b (h.hIlt b hb)) _ _ _ (fun b hb => by cases hb) h2
  have h3 := h'.name hfree hnone (x := .opw (tsize P e) l) (B := [w.heap.size]) (v := .slice (some ⟨w.heap.size, 0, none⟩) 1 1)
    (by
      simp only [Rep]
      refine ⟨w.heap.size, 1, 1, cs', e, [], rfl, rfl, hat, by simp [hll], Nat.le_refl _, by omega, ?_⟩
      rw [List.take_of_length_le (by simp; omega)]
      exact hl') hno rfl (by simp) (fun nm hx b hb => by have := h.F_lt hx hb; simp; omega)
    (fun b hb hI => by have := h.hIlt b hI; simp at hb; omega) (fun b hb => by right; have := h.size; simp at hb; omega)
  simp only [St.app, hd, St.ws, St.nws]
  refine ⟨I, _, _, h3.put (hdn d rfl) ?_⟩
  simp only [Rep]
  exact ⟨trivial, upd_same _ _ _⟩

theorem s_makeSlice (h : StRelAt c st a w I hdr F) {t : TypeId} {x y : Operand} {K : Eff → Prop} (ho : o.op = .makeSlice t x y) (hK : makeSliceOp P o.dst t (opv st x) (opv st y) K) : Goes P o c st a w K := by
  have hx := rep_opv h x
  have hy := rep_opv h y
  unfold makeSliceOp at hK
  split at hK
  case h_2 => exact hK.elim
  rename_i d e hd he
  have hu := telem_spec he
  split at hK
  case h_2 => exact hK.elim
  rename_i z k l k' cp hz hl hc
  rw [hl] at hx
  rw [hc] at hy
  obtain ⟨hok, h0, hzs, hl0, hlc, hby, h63, hK⟩ := hK
  obtain ⟨i, ds, hi, hds⟩ := tok_spec hok
  unfold tzero at hz
  rw [hi] at hz
  simp only [Option.bind_some] at hz
  rw [tbytes_info hi] at hby
  have hr := run_make (P := P) w t e i z hu hi hz k k' l cp hl0 hlc hby h63
  rw [← tsize_info hi] at hr
  have hmc : (madeCells z.cells (cp.toNat * tsize P e)).toList = (List.replicate cp.toNat z.cells.toList).flatten := by
    unfold madeCells
    rw [← hzs]
    exact range_mod_flatten z.cells (by omega) cp.toNat
  have hll : ((List.replicate l.toNat (z.cells.toList.map AV.val)).flatten).length = l.toNat * tsize P e := by
    simp [List.length_flatten, hzs]
  refine new_own h hd hK (n := l.toNat) (cp := cp.toNat) (cs := madeCells z.cells (cp.toNat * tsize P e)) (ty := e) hll.symm (by omega) (by rw [size_madeCells]; omega) ?_ ?_
  · rw [hmc, hll]
    have e1 : (List.replicate cp.toNat z.cells.toList).flatten.take (l.toNat * tsize P e) = (List.replicate l.toNat z.cells.toList).flatten := by
      have : cp.toNat = l.toNat + (cp.toNat - l.toNat) := by omega
      rw [this, ← List.replicate_append_replicate, List.flatten_append, List.take_left']
      simp [List.length_flatten, hzs]
    rw [e1]
    exact flatten_rep (repL_val w I (fun _ => none) _) l.toNat
  · simp [execOp, ho, rep_val hx, rep_val hy, hr]

theorem Row.put {w : World} {b : Nat} {C : Array Value} {ty : TypeId} (h : Row w b C ty) (C' : Array Value) (hs : C'.size = C.size) : Row (w.setRow b C') b C' ty := by
  obtain ⟨z, h1, h2⟩ := h
  exact ⟨z, setRow_heap w b C C' ty z h1, by rw [hs]; exact h2⟩
theorem Row.frozen {w : World} {b : Nat} {C : Array Value} {ty : TypeId} (h : Row w b C ty) {o : Nat} (ho : o < C.size) : w.frozen? ⟨b, o, none⟩ = false := by
  obtain ⟨z, h1, h2⟩ := h
  unfold World.frozen?
  simp only [h1]
  rcases h2 with rfl | h2
  · simp
  · have : ¬ z.1 ≤ o := by omega
    simp [this]
theorem run_storeCells_row (g o : Nat) (t : TypeId) : ∀ (vs : List Value) (i : Nat) (cur : Array Value) (w : World), Row w g cur t → o + i + vs.length ≤ cur.size → (∀ v ∈ vs, v.oneCell' = true) →
    (storeCells ⟨g, o, none⟩ vs i).run P w = .ok () (w.setRow g (cur.toList.take (o + i) ++ vs ++ cur.toList.drop (o + i + vs.length)).toArray)
  | [], i, cur, w, hg, _, _ => by
    simp only [storeCells, List.append_nil, List.length_nil, Nat.add_zero, List.take_append_drop, Array.toArray_toList]
    obtain ⟨z, hz, _⟩ := hg
    rw [setRow_self w g cur t z hz]
    rfl
  | v :: rest, i, cur, w, hg, hl, h1 => by
    have hi : o + i < cur.size := by simp at hl; omega
    have hadd : (⟨g, o, none⟩ : Addr).add i = ⟨g, o + i, none⟩ := by unfold Addr.add; split <;> simp_all
    have hfro : w.frozen? ⟨g, o + i, none⟩ = false := hg.frozen hi
    obtain ⟨z, hz, hz2⟩ := hg
    have hcell : w.cell? ⟨g, o + i, none⟩ = some cur[o + i] := by simp [World.cell?, hz, hi]
    have hst : (store ((⟨g, o, none⟩ : Addr).add i) v).run P w = .ok () (w.setRow g (cur.setIfInBounds (o + i) v)) := by
      rw [hadd, run_store P w _ v _ (h1 v (by simp)), hcell]
      simp [hfro, setCell_eq_setRow w g (o + i) cur t z v hz]
    have ih := run_storeCells_row g o t rest (i + 1) (cur.setIfInBounds (o + i) v) (w.setRow g (cur.setIfInBounds (o + i) v)) ⟨z, setRow_heap w g cur _ t _ hz, by rw [Array.size_setIfInBounds]; exact hz2⟩ (by simp at hl ⊢; omega) (fun x hx => h1 x (by simp [hx]))
    simp only [storeCells, Sem.run_bind, hst, Result.andThen_ok, ih, setRow_setRow]
    congr 3
    have e := list_seg_step cur.toList (o + i) v rest (by simp at hl ⊢; omega)
    simpa [Array.toList_setIfInBounds, Nat.add_assoc] using e

theorem run_storeVar' {t : TypeId} {i : TypeInfo} (hi : P.info? t = some i) {b off : Nat} {C : Array Value} {ty : TypeId} (hC : Row w b C ty) {v : Value} (hv : v.cells.size = tsize P t) (hfit : off + v.cells.size ≤ C.size)
    (h1 : ∀ u ∈ v.cells.toList, u.oneCell' = true) :
    (storeVar t ⟨b, off, none⟩ v).run P w = .ok () (w.setRow b (C.toList.take off ++ v.cells.toList ++ C.toList.drop (off + v.cells.size)).toArray) := by
  have := run_storeCells_row (P := P) b off ty v.cells.toList 0 C w hC (by simpa using hfit) h1
  simp only [Nat.add_zero, Array.length_toList] at this
  simp [storeVar, run_sizeOf' hi, hv, this]

theorem all_one {l : List AV} {B : List Nat} {us : List Value} (hh : ∀ nm h, hdr nm = some h → h.oneCell' = true) (hl : l.all one = true) (h : RepL w I hdr l B us) : ∀ u ∈ us, u.oneCell' = true := by
  intro u hu
  obtain ⟨i, hi⟩ := List.mem_iff_getElem?.1 hu
  have hlt : i < l.length := by
    have := h.length
    rw [← this]
    exact (List.getElem?_eq_some_iff.1 hi).1
  obtain ⟨u', B₁, hu', hr, _⟩ := h.get (List.getElem?_eq_getElem hlt)
  rw [hi] at hu'
  cases hu'
  exact one_cell hh (List.all_eq_true.1 hl _ (List.getElem_mem hlt)) hr

/-- Cells in the middle of a node are written. -/
theorem RepL.put {m l : List AV} {B : List Nat} {us vs : List Value} (hm : RepL w I hdr m B us) (hl : RepL w I hdr l [] vs) (off : Nat) (hfit : off + l.length ≤ m.length) :
    ∃ B', RepL w I hdr (m.take off ++ l ++ m.drop (off + l.length)) B' (us.take off ++ vs ++ us.drop (off + l.length)) ∧ (∀ b, b ∈ B' → b ∈ B) ∧ (B.Nodup → B'.Nodup) := by
  have hlen := hm.length
  have e1 : m = m.take off ++ m.drop off := (List.take_append_drop off m).symm
  have e2 : m.drop off = (m.drop off).take l.length ++ m.drop (off + l.length) := by
    have := (List.take_append_drop l.length (m.drop off)).symm
    rwa [List.drop_drop] at this
  rw [e1] at hm
  obtain ⟨B₁, B₂, rfl, h1, h2⟩ := hm.split
  rw [e2] at h2
  obtain ⟨C₁, C₂, rfl, h3, h4⟩ := h2.split
  have l1 : (m.take off).length = off := List.length_take_of_le (by omega)
  have l2 : ((m.drop off).take l.length).length = l.length := List.length_take_of_le (by rw [List.length_drop]; omega)
  rw [l1] at h1 h4
  rw [l2] at h4
  rw [List.drop_drop] at h4
  refine ⟨B₁ ++ [] ++ C₂, (h1.append hl).append h4, fun b hb => by simp at hb ⊢; rcases hb with hb | hb <;> simp [hb], fun hn => ?_⟩
  simp only [List.append_nil]
  have := List.nodup_append.1 hn
  refine List.nodup_append.2 ⟨this.1, (List.nodup_append.1 this.2.1).2.1, fun x hx y hy => this.2.2 x hx y (by simp [hy])⟩

/-- The same, of cells that own something. -/
theorem RepL.put2 {m l : List AV} {B D : List Nat} {us vs : List Value} (hm : RepL w I hdr m B us) (hl : RepL w I hdr l D vs) (off : Nat) (hfit : off + l.length ≤ m.length) :
    ∃ B₁ B₂, RepL w I hdr (m.take off ++ l ++ m.drop (off + l.length)) (B₁ ++ D ++ B₂) (us.take off ++ vs ++ us.drop (off + l.length)) ∧ (∀ b, b ∈ B₁ ++ B₂ → b ∈ B) ∧ (B.Nodup → (B₁ ++ B₂).Nodup) := by
  have hlen := hm.length
  have e1 : m = m.take off ++ m.drop off := (List.take_append_drop off m).symm
  have e2 : m.drop off = (m.drop off).take l.length ++ m.drop (off + l.length) := by
    have := (List.take_append_drop l.length (m.drop off)).symm
    rwa [List.drop_drop] at this
  rw [e1] at hm
  obtain ⟨B₁, B₂, rfl, h1, h2⟩ := hm.split
  rw [e2] at h2
  obtain ⟨C₁, C₂, rfl, h3, h4⟩ := h2.split
  have l1 : (m.take off).length = off := List.length_take_of_le (by omega)
  have l2 : ((m.drop off).take l.length).length = l.length := List.length_take_of_le (by rw [List.length_drop]; omega)
  rw [l1] at h1 h4
  rw [l2] at h4
  rw [List.drop_drop] at h4
  refine ⟨B₁, C₂, (h1.append hl).append h4, fun b hb => by simp at hb ⊢; rcases hb with hb | hb <;> simp [hb], fun hn => ?_⟩
  have := List.nodup_append.1 hn
  refine List.nodup_append.2 ⟨this.1, (List.nodup_append.1 this.2.1).2.1, fun x hx y hy => this.2.2 x hx y (by simp [hy])⟩

theorem s_storeMove (h : StRelAt c st a w I hdr F) {t : TypeId} {x y : Operand} {K : Eff → Prop} (ho : o.op = .store t x y) {nm off : Nat} {l : List AV} (hp : opv st x = .pt nm off) (hc : cellsOf (opv st y) = some l)
    (hok : tok P t = true) (hsz : l.length = tsize P t) (h1 : l.all one = true) {sz : Nat} {nn : Bool} {m : List AV} (hm : st.o nm = some (.own sz nn m)) (hfit : off + l.length ≤ m.length)
    (hnd : (l.flatMap nmB1).Nodup) (hnm : nm ∉ l.flatMap nmB1) (hn : nrfL (l.map (rsv1 st.o)) = true)
    (hK : K { val := .junk, ws := (l.flatMap nmB1).map (fun k => (k, none)) ++ [(nm, some (.own sz nn (m.take off ++ l.map (rsv1 st.o) ++ m.drop (off + l.length))))], rd := true }) : Goes P o c st a w K := by
  have hx := rep_opv h x
  have hy := rep_opv h y
  obtain ⟨i, ds, hi, hds⟩ := tok_spec hok
  have hl := cellsOf_spec h.hone hc hy
  have hll := hl.length
  have hone := all_one h.hone h1 hl
  rw [hp] at hx
  simp only [Rep] at hx
  obtain ⟨_, hd, ad, hh, had, hv⟩ := hx
  obtain ⟨B2, hl2, hB2n, hB2k⟩ := hand_list h (hand1 h) hl hnd
  have hl0 := RepL.nohdr (fun _ => none) _ _ _ hn hl2
  obtain ⟨v', hv', hr⟩ := h.ob nm _ hm
  rw [hh] at hv'
  cases hv'
  simp only [Rep] at hr
  rcases hr with ⟨rfl, _⟩ | ⟨b, n, cp, C, ty, B', rfl, hB, hC, hnsz, hnc, hcC, hr⟩
  · simp [nilSlice, addrOf] at had
  simp only [addrOf, Option.some.injEq] at had
  subst had
  have hno : st.o nm ≠ none := by rw [hm]; simp
  have hlen := hr.length
  rw [List.length_take] at hlen
  have hmC : m.length ≤ C.size := by simp at hlen; omega
  have hndF := h.nd nm hno
  rw [hB] at hndF
  have hbI : ¬ I b := h.oi nm hno b (by rw [hB]; simp)
  have hvs : (a.eval y).cells.size = tsize P t := by simpa [hsz] using hll
  have hcs : (a.eval y).cells.size = l.length := by simpa using hll
  have hrun := run_storeVar' (P := P) (t := t) hi (w := w) (b := b) (off := off) hC (v := a.eval y) hvs (by rw [hcs]; omega) hone
  have hav : a.eval x = .pointer (some ⟨b, off, none⟩) := by rw [hv, Addr.add_lit]; simp
  have hexec : (execOp a.eval o).run P w = .ok .skip (w.setRow b (C.toList.take off ++ (a.eval y).cells.toList ++ C.toList.drop (off + (a.eval y).cells.size)).toArray) := by
    simp [execOp, ho, hav, Instr.storeAt, Instr.sureAddr, hrun]
  have hw' : ∀ k, k ≠ b → (w.setRow b (C.toList.take off ++ (a.eval y).cells.toList ++ C.toList.drop (off + (a.eval y).cells.size)).toArray).heap[k]? = w.heap[k]? := fun k hk => setRow_other w b k _ hk
  intro K' Q hQ
  unfold Oper.wp
  rw [hexec]
  refine hQ _ _ _ hK fun hok' => ?_
  have hdrop := ws_none _ (dropd_none (l.flatMap nmB1)) h
  have hm' : (st.ws ((l.flatMap nmB1).map fun k => (k, none))).o nm = some (.own sz nn m) := by
    rw [ws_o_ne' _ _ _ (by rw [List.map_map]; simpa using hnm)]; exact hm
  have hB2nm : ∀ k, k ∈ B2 → k ∉ F nm := fun k hk hkF => by
    obtain ⟨j, hj, hj2, hb'⟩ := hB2k k hk
    exact h.dj j nm (fun e => hnm (e ▸ hj)) hj2 hno k hb' hkF
  have hlm2 : (l.map (rsv1 st.o)).length = l.length := by simp
  obtain ⟨B3, B4, hp2, hsub2, hnod2⟩ := hr.put2 hl0 off (by rw [hlm2]; exact hfit)
  rw [hlm2] at hp2
  have hrep : Rep (w.setRow b (C.toList.take off ++ (a.eval y).cells.toList ++ C.toList.drop (off + (a.eval y).cells.size)).toArray) I hdr (.own sz nn (m.take off ++ l.map (rsv1 st.o) ++ m.drop (off + l.length))) (b :: (B3 ++ B2 ++ B4)) (.slice (some ⟨b, 0, none⟩) n cp) := by
    simp only [Rep]
    refine .inr ⟨b, n, cp, _, ty, B3 ++ B2 ++ B4, rfl, rfl, hC.put _ (by simp; omega), ?_, hnc, ?_, ?_⟩
    · rw [hnsz]; simp; omega
    · rw [hcs]; simp; omega
    have := RepL.frame (w' := w.setRow b (C.toList.take off ++ (a.eval y).cells.toList ++ C.toList.drop (off + (a.eval y).cells.size)).toArray) (I' := I) (fun _ hb => hb) (fun k hk => hw' k (fun e => hbI (e ▸ hk))) _ _ _
      (fun k hk => hw' k (fun e => by
        subst e
        rcases List.mem_append.1 hk with hk | hk
        · rcases List.mem_append.1 hk with hk | hk
          · exact (List.nodup_cons.1 hndF).1 (hsub2 _ (by simp [hk]))
          · exact hB2nm _ hk (by rw [hB]; simp)
        · exact (List.nodup_cons.1 hndF).1 (hsub2 _ (by simp [hk])))) hp2
    have hlm : (m.take off ++ l.map (rsv1 st.o) ++ m.drop (off + l.length)).length = m.length := by simp; omega
    rw [hlm]
    have e : (C.toList.take off ++ (a.eval y).cells.toList ++ C.toList.drop (off + (a.eval y).cells.size)).take m.length = (C.toList.take m.length).take off ++ (a.eval y).cells.toList ++ (C.toList.take m.length).drop (off + l.length) := by
      rw [hcs, List.take_take, Nat.min_eq_left (by omega), List.take_append, List.take_of_length_le (by simp [hcs]; omega)]
      congr 1
      rw [List.drop_take]
      congr 1
      simp [hcs]
      omega
    rw [← e] at this
    simpa using this
  have h2 := hdrop.turn2 hm' hh hrep (fun b' hb' hF => hw' b' (fun e => hF (e ▸ by rw [hB]; simp))) (by simp) rfl rfl (by first | exact ⟨rfl, Nat.le_refl _⟩ | exact ⟨rfl, Nat.le_succ _⟩)
    (List.nodup_cons.2 ⟨fun hk => by
        rcases List.mem_append.1 hk with hk | hk
        · rcases List.mem_append.1 hk with hk | hk
          · exact (List.nodup_cons.1 hndF).1 (hsub2 _ (by simp [hk]))
          · exact hB2nm _ hk (by rw [hB]; simp)
        · exact (List.nodup_cons.1 hndF).1 (hsub2 _ (by simp [hk])), by
      have h34 := List.nodup_append.1 (hnod2 (List.nodup_cons.1 hndF).2)
      have dis : ∀ k, k ∈ B3 ∨ k ∈ B4 → k ∉ B2 := fun k hk hk2 => hB2nm k hk2 (by rw [hB]; exact List.mem_cons_of_mem _ (hsub2 k (by simpa using hk)))
      refine List.nodup_append.2 ⟨List.nodup_append.2 ⟨h34.1, hB2n, fun x hx y hy e => dis x (.inl hx) (e ▸ hy)⟩, h34.2.1, fun x hx y hy e => ?_⟩
      rcases List.mem_append.1 hx with hx | hx
      · exact h34.2.2 x hx y hy e
      · exact dis y (.inr hy) (e ▸ hx)⟩)
    (fun k hk => by
      rcases List.mem_cons.1 hk with rfl | hk
      · exact .inl (by rw [hB]; simp)
      · rcases List.mem_append.1 hk with hk | hk
        · rcases List.mem_append.1 hk with hk | hk
          · exact .inl (by rw [hB]; exact List.mem_cons_of_mem _ (hsub2 k (by simp [hk])))
          · obtain ⟨j, hj, hj2, hb'⟩ := hB2k k hk
            refine .inr (.inr ⟨fun q hq hkq => ?_, h.oi j hj2 k hb', h.oo j hj2 k hb'⟩)
            obtain ⟨q1, q2⟩ := dropd_live hq
            exact h.dj j q (fun e => q2 (e ▸ hj)) hj2 q1 k hb' hkq
        · exact .inl (by rw [hB]; exact List.mem_cons_of_mem _ (hsub2 k (by simp [hk]))))
  simp only [St.app, ws_append, St.ws, St.nws]
  cases hdst : o.dst with
  | none => exact ⟨I, hdr, _, h2⟩
  | some d =>
    refine ⟨I, hdr, _, h2.put ?_ (by simp [Rep])⟩
    simp only [St.node, ws_n]
    exact hok'.1 d hdst

theorem s_store (h : StRelAt c st a w I hdr F) {t : TypeId} {x y : Operand} {K : Eff → Prop} (ho : o.op = .store t x y) (hK : storeOp P st t (opv st x) (opv st y) K) : Goes P o c st a w K := by
  have hx := rep_opv h x
  have hy := rep_opv h y
  unfold storeOp at hK
  split at hK
  case h_2 => exact hK.elim
  rename_i nm off l hp hc
  obtain ⟨hok, hsz, h1, hK⟩ := hK
  obtain ⟨i, ds, hi, hds⟩ := tok_spec hok
  have hl := cellsOf_spec h.hone hc hy
  have hll := hl.length
  have hone := all_one h.hone h1 hl
  rw [hp] at hx
  simp only [Rep] at hx
  obtain ⟨_, hd, ad, hh, had, hv⟩ := hx
  have fin : ∀ (b : Nat) (C : Array Value) (ty : TypeId) (e : Eff) (nd : AV) (B' : List Nat), ad = ⟨b, 0, none⟩ → Row w b C ty → off + l.length ≤ C.size → (∃ y, st.o nm = some y) → b ∈ F nm → K e → e = { val := .junk, ws := [(nm, some nd)], rd := true } →
      Rep (w.setRow b (C.toList.take off ++ (a.eval y).cells.toList ++ C.toList.drop (off + (a.eval y).cells.size)).toArray) I hdr nd B' hd → B'.Nodup → (∀ b, b ∈ B' → b ∈ F nm) → Goes P o c st a w K := by
    intro b C ty e nd B' ea hC hfit hy' hbF hKe he hrep hnod hsub
    intro K' Q hQ
    have hvs : (a.eval y).cells.size = tsize P t := by simpa [hsz] using hll
    have hrun := run_storeVar' (P := P) (t := t) hi (w := w) (b := b) (off := off) hC (v := a.eval y) hvs (by rw [hvs, ← hsz]; exact hfit) hone
    have hav : a.eval x = .pointer (some ⟨b, off, none⟩) := by rw [hv, ea, Addr.add_lit]; simp
    have hexec : (execOp a.eval o).run P w = .ok .skip (w.setRow b (C.toList.take off ++ (a.eval y).cells.toList ++ C.toList.drop (off + (a.eval y).cells.size)).toArray) := by
      simp [execOp, ho, hav, Instr.storeAt, Instr.sureAddr, hrun]
    unfold Oper.wp
    rw [hexec]
    refine hQ e _ _ hKe fun hok' => ?_
    subst he
    obtain ⟨y', hy'⟩ := hy'
    have h2 := h.turn hy' hh hrep (fun b' hb' hF => setRow_other w b b' _ (fun e => hF (e ▸ hbF))) (by simp) rfl rfl (by first | exact ⟨rfl, Nat.le_refl _⟩ | exact ⟨rfl, Nat.le_succ _⟩) hnod (fun b hb => .inl (hsub b hb))
    simp only [St.app, St.ws, St.nws]
    cases hdst : o.dst with
    | none => exact ⟨I, hdr, _, h2⟩
    | some d => exact ⟨I, hdr, _, h2.put (hok'.1 d hdst) (by simp [Rep])⟩
  split at hK
  · rename_i m hm
    obtain ⟨hfit, hK⟩ := hK
    obtain ⟨v', hv', hr⟩ := h.ob nm _ hm
    rw [hh] at hv'
    cases hv'
    simp only [Rep] at hr
    obtain ⟨b, C, ty, B', rfl, hB, hC, hr⟩ := hr
    simp only [addrOf, Option.some.injEq] at had
    subst had
    have hlen := hr.length
    have hnd := h.nd nm (by rw [hm]; simp)
    rw [hB] at hnd
    have hbI : ¬ I b := h.oi nm (by rw [hm]; simp) b (by rw [hB]; simp)
    have hw' : ∀ k, k ≠ b → (w.setRow b (C.toList.take off ++ (a.eval y).cells.toList ++ C.toList.drop (off + (a.eval y).cells.size)).toArray).heap[k]? = w.heap[k]? := fun k hk => setRow_other w b k _ hk
    obtain ⟨B2, hp2, hsub2, hnod2⟩ := hr.put hl off hfit
    have hcs : (a.eval y).cells.size = l.length := by simpa using hll
    refine fin b C ty _ _ (b :: B2) rfl hC (by simp at hlen; omega) ⟨_, hm⟩ (by rw [hB]; simp) hK rfl ?_ ?_ ?_
    · simp only [Rep]
      refine ⟨b, _, ty, B2, rfl, rfl, hC.put _ (by simp at hlen; simp; omega), ?_⟩
      have := RepL.frame (w' := w.setRow b (C.toList.take off ++ (a.eval y).cells.toList ++ C.toList.drop (off + (a.eval y).cells.size)).toArray) (I' := I) (fun _ hb => hb) (fun k hk => hw' k (fun e => hbI (e ▸ hk))) _ _ _
        (fun k hk => hw' k (fun e => by subst e; exact (List.nodup_cons.1 hnd).1 (hsub2 _ hk))) hp2
      rw [hcs]
      rw [hcs] at this
      simpa using this
    · exact List.nodup_cons.2 ⟨fun hk => (List.nodup_cons.1 hnd).1 (hsub2 _ hk), hnod2 (List.nodup_cons.1 hnd).2⟩
    · intro k hk
      rw [hB]
      rcases List.mem_cons.1 hk with rfl | hk
      · simp
      · exact List.mem_cons_of_mem _ (hsub2 k hk)
  · rename_i sz nn m hm
    obtain ⟨hfit, hK⟩ := hK
    split at hK
    case isFalse =>
      obtain ⟨k1, k2, k3, k4⟩ := hK
      exact s_storeMove h ho hp hc hok hsz h1 hm hfit k1 k2 k3 k4
    rename_i hn
    obtain ⟨v', hv', hr⟩ := h.ob nm _ hm
    rw [hh] at hv'
    cases hv'
    simp only [Rep] at hr
    rcases hr with ⟨rfl, _⟩ | ⟨b, n, cp, C, ty, B', rfl, hB, hC, hnsz, hnc, hcC, hr⟩
    · simp [nilSlice, addrOf] at had
    simp only [addrOf, Option.some.injEq] at had
    subst had
    have hlen := hr.length
    rw [List.length_take] at hlen
    have hmC : m.length ≤ C.size := by simp at hlen; omega
    have hnd := h.nd nm (by rw [hm]; simp)
    rw [hB] at hnd
    have hbI : ¬ I b := h.oi nm (by rw [hm]; simp) b (by rw [hB]; simp)
    have hw' : ∀ k, k ≠ b → (w.setRow b (C.toList.take off ++ (a.eval y).cells.toList ++ C.toList.drop (off + (a.eval y).cells.size)).toArray).heap[k]? = w.heap[k]? := fun k hk => setRow_other w b k _ hk
    have hl0 := RepL.nohdr (fun _ => none) _ _ _ hn hl
    obtain ⟨B2, hp2, hsub2, hnod2⟩ := hr.put hl0 off hfit
    have hcs : (a.eval y).cells.size = l.length := by simpa using hll
    refine fin b C ty _ _ (b :: B2) rfl hC (by omega) ⟨_, hm⟩ (by rw [hB]; simp) hK rfl ?_ ?_ ?_
    · simp only [Rep]
      refine .inr ⟨b, n, cp, _, ty, B2, rfl, rfl, hC.put _ (by simp; omega), ?_, hnc, ?_, ?_⟩
      · rw [hnsz]; simp; omega
      · rw [hcs]; simp; omega
      have := RepL.frame (w' := w.setRow b (C.toList.take off ++ (a.eval y).cells.toList ++ C.toList.drop (off + (a.eval y).cells.size)).toArray) (I' := I) (fun _ hb => hb) (fun k hk => hw' k (fun e => hbI (e ▸ hk))) _ _ _
        (fun k hk => hw' k (fun e => by subst e; exact (List.nodup_cons.1 hnd).1 (hsub2 _ hk))) hp2
      have hlm : (m.take off ++ l ++ m.drop (off + l.length)).length = m.length := by simp; omega
      rw [hlm]
      have e : (C.toList.take off ++ (a.eval y).cells.toList ++ C.toList.drop (off + (a.eval y).cells.size)).take m.length = (C.toList.take m.length).take off ++ (a.eval y).cells.toList ++ (C.toList.take m.length).drop (off + l.length) := by
        rw [hcs, List.take_take, Nat.min_eq_left (by omega), List.take_append, List.take_of_length_le (by simp [hcs]; omega)]
        congr 1
        rw [List.drop_take]
        congr 1
        simp [hcs]
        omega
      rw [← e] at this
      simpa using this
    · exact List.nodup_cons.2 ⟨fun hk => (List.nodup_cons.1 hnd).1 (hsub2 _ hk), hnod2 (List.nodup_cons.1 hnd).2⟩
    · intro k hk
      rw [hB]
      rcases List.mem_cons.1 hk with rfl | hk
      · simp
      · exact List.mem_cons_of_mem _ (hsub2 k hk)
  · exact hK.elim

theorem s_slice (h : StRelAt c st a w I hdr F) {t : TypeId} {x : Operand} {lo hi : Option Operand} {K : Eff → Prop} (ho : o.op = .slice t x lo hi none) (hK : sliceOp P st t (opv st x) (lo.map (opv st)) (hi.map (opv st)) K) : Goes P o c st a w K := by
  have hx := rep_opv h x
  have hb : ∀ (n dflt : Nat) (y : Option Operand) (i : Int), bnd n dflt (y.map (opv st)) = some i → (y = none ∧ i = dflt) ∨ ∃ q k, y = some q ∧ a.eval q = .int k i := by
    intro n dflt y i hi
    cases y with
    | none => simp only [Option.map_none, bnd, Option.some.injEq] at hi; exact .inl ⟨rfl, hi.symm⟩
    | some q =>
      simp only [Option.map_some] at hi
      unfold bnd at hi
      split at hi
      · rename_i h1; cases h1
      · rename_i k j h1
        cases hi
        simp only [Option.some.injEq] at h1
        have := rep_opv h q
        rw [h1] at this
        exact .inr ⟨q, k, rfl, rep_val this⟩
      · cases hi
  unfold sliceOp at hK
  split at hK
  · rename_i s hs
    rw [hs] at hx
    have ex := rep_val hx
    obtain ⟨ht, hK⟩ := hK
    have hu : P.underlying t = some .string := by
      unfold tstr at ht
      split at ht
      · assumption
      · cases ht
    split at hK
    case h_2 => exact hK.elim
    rename_i i j hi' hj'
    obtain ⟨h0, h1, h2, hK⟩ := hK
    refine goes_pure h (v := .string (s.extract i.toNat j.toNat)) (w' := w) _ rfl rfl ?_ (Same.refl w) hK (by simp [Rep])
    have hbd : ∀ (k : IntKind) (i : Int) (y : Nat) (code : BoundsCode), 0 ≤ i → i ≤ y → (Instr.sliceBound (.int k i) y code).run P w = .ok i.toNat w := fun k i y code h0 h1 => run_sliceBound w k i y code h0 h1
    rcases hb 0 0 lo i hi' with ⟨rfl, rfl⟩ | ⟨q, k, rfl, hq⟩ <;> rcases hb 0 _ hi j hj' with ⟨rfl, rfl⟩ | ⟨q', k', rfl, hq'⟩
    · simp [execOp, ho, ex, Instr.sliceAt, Instr.slice, run_underlying hu, Instr.sliceBounds]
    · have e := hbd k' j s.size .sliceAlen (by omega) h2
      simp [execOp, ho, ex, hq', Instr.sliceAt, Instr.slice, run_underlying hu, Instr.sliceBounds, e]
    · have e := hbd k i s.size .sliceB h0 (by omega)
      simp [execOp, ho, ex, hq, Instr.sliceAt, Instr.slice, run_underlying hu, Instr.sliceBounds, e]
    · have e := hbd k' j s.size .sliceAlen (by omega) h2
      have e2 := hbd k i j.toNat .sliceB h0 (by omega)
      simp [execOp, ho, ex, hq, hq', Instr.sliceAt, Instr.slice, run_underlying hu, Instr.sliceBounds, e, e2]
  · rename_i sz nn l hs
    rw [hs] at hx
    split at hK
    case h_2 => exact hK.elim
    rename_i e he
    have hu := telem_spec he
    obtain ⟨hok, hsz, hpos, hK⟩ := hK
    obtain ⟨ie, de, hie, hde⟩ := tok_spec hok
    split at hK
    case h_2 => exact hK.elim
    rename_i i j hi' hj'
    obtain ⟨h0, h1, h2, hK⟩ := hK
    simp only [Rep] at hx
    have hbd : ∀ (k : IntKind) (i : Int) (y : Nat) (code : BoundsCode), 0 ≤ i → i ≤ y → (Instr.sliceBound (.int k i) y code).run P w = .ok i.toNat w := fun k i y code h0 h1 => run_sliceBound w k i y code h0 h1
    have run : ∀ base n cp, a.eval x = .slice base n cp → l.length / sz = n → n ≤ cp → (execOp a.eval o).run P w = .ok (.value (.slice (if cp = i.toNat then base else base.map (·.add (i.toNat * sz))) (j.toNat - i.toNat) (cp - i.toNat))) w := by
      intro base n cp hv hn hc
      rw [hn] at hj' h2
      rcases hb 0 0 lo i hi' with ⟨rfl, rfl⟩ | ⟨q, k, rfl, hq⟩ <;> rcases hb 0 _ hi j hj' with ⟨rfl, rfl⟩ | ⟨q', k', rfl, hq'⟩
      · simp [execOp, ho, hv, Instr.sliceAt, Instr.slice, run_underlying hu, Instr.sliceBounds, run_sizeOf' hie, hsz]
      · have e := hbd k' j cp .sliceAcap (by omega) (by omega)
        simp [execOp, ho, hv, hq', Instr.sliceAt, Instr.slice, run_underlying hu, Instr.sliceBounds, e, run_sizeOf' hie, hsz]
      · have e := hbd k i n .sliceB h0 (by omega)
        simp [execOp, ho, hv, hq, Instr.sliceAt, Instr.slice, run_underlying hu, Instr.sliceBounds, e, run_sizeOf' hie, hsz]
      · have e := hbd k' j cp .sliceAcap (by omega) (by omega)
        have e2 := hbd k i j.toNat .sliceB h0 (by omega)
        simp [execOp, ho, hv, hq, hq', Instr.sliceAt, Instr.slice, run_underlying hu, Instr.sliceBounds, e, e2, run_sizeOf' hie, hsz]
    rcases hx.2 with ⟨hv, rfl, rfl⟩ | ⟨ad, n, cp, us, hv, hn, hc, hI, hcs, hr⟩
    · refine goes_pure h _ rfl rfl (run _ _ _ hv (by simp) (Nat.le_refl _)) (Same.refl w) hK ?_
      have hi0 : i.toNat = 0 := by simp at h2; omega
      have hj0 : j.toNat = 0 := by simp at h2; omega
      simp only [Rep, hi0, hj0]
      exact ⟨trivial, .inl ⟨by simp [nilSlice], by simp, trivial⟩⟩
    · have hdiv : l.length / sz = n := by rw [← hn, Nat.mul_div_cancel _ hpos]
      rw [hdiv] at h2
      refine goes_pure h _ rfl rfl (run _ _ _ hv hdiv hc) (Same.refl w) hK ?_
      have hlen : ((l.drop (i.toNat * sz)).take ((j.toNat - i.toNat) * sz)).length = (j.toNat - i.toNat) * sz := by
        rw [List.length_take, List.length_drop, ← hn, ← Nat.sub_mul, Nat.min_eq_left]
        exact Nat.mul_le_mul_right _ (by omega)
      simp only [Rep]
      by_cases hcap : cp = i.toNat
      · have hz : j.toNat - i.toNat = 0 := by omega
        rw [if_pos hcap]
        refine ⟨trivial, .inr ⟨ad, _, _, [], rfl, hlen.symm, by omega, fun hne => ?_, fun k u hu => by simp at hu, ?_⟩⟩
        · exfalso; apply hne; apply List.eq_nil_of_length_eq_zero; rw [hlen, hz]; simp
        · have : (l.drop (i.toNat * sz)).take ((j.toNat - i.toNat) * sz) = [] := List.eq_nil_of_length_eq_zero (by rw [hlen, hz]; simp)
          rw [this]; simp [RepL]
      · rw [if_neg hcap]
        have hblk : (ad.add (i.toNat * sz)).block = ad.block := by unfold Addr.add; split <;> rfl
        refine ⟨trivial, .inr ⟨ad.add (i.toNat * sz), _, _, _, rfl, hlen.symm, by omega, fun hne => ?_, hcs.window _ _, hr.sub _ _⟩⟩
        rw [hblk]
        refine hI fun e => hne ?_
        subst e; simp
  · exact hK.elim

theorem s_cap (h : StRelAt c st a w I hdr F) {x : Operand} {t : TypeId} {K : Eff → Prop} (ho : o.op = .call { callee := .builtin .cap, args := #[x], argTypes := #[t] }) (hK : capOp P t (opv st x) K) : Goes P o c st a w K := by
  have hx := rep_opv h x
  unfold capOp at hK
  split at hK
  case h_2 => exact hK.elim
  rename_i e hxe he
  rw [hxe] at hx
  have ex := rep_val hx
  have hu := telem_spec he
  refine goes_pure h _ rfl rfl (v := .int .i64 0) (w' := w) ?_ (Same.refl w) hK (by simp [Rep])
  simp [execOp, ho, resolve, ex, invoke, builtin, Builtin.cap_, run_underlying hu, goInt]

theorem s_min (h : StRelAt c st a w I hdr F) {x y : Operand} {ts : Array TypeId} {K : Eff → Prop} (ho : o.op = .call { callee := .builtin .min, args := #[x, y], argTypes := ts }) (hK : minOp (opv st x) (opv st y) K) : Goes P o c st a w K := by
  have hx := rep_opv h x
  have hy := rep_opv h y
  unfold minOp at hK
  split at hK
  case h_2 => exact hK.elim
  rename_i k a' k' b hxe hye
  rw [hxe] at hx
  rw [hye] at hy
  have ex := rep_val hx
  have ey := rep_val hy
  refine goes_pure h _ rfl rfl (v := .int k (if b < a' then b else a')) (w' := w) ?_ (Same.refl w) hK (by simp [Rep])
  simp [execOp, ho, resolve, ex, ey, invoke, builtin, Builtin.min_, Builtin.min2]

theorem s_slice2 (h : StRelAt c st a w I hdr F) {t : TypeId} {x : Operand} {lo hi : Option Operand} {K : Eff → Prop} (ho : o.op = .slice t x lo hi none) (hK : sliceOp2 P st o.dst t (opv st x) (lo.map (opv st)) (hi.map (opv st)) K) : Goes P o c st a w K := by
  unfold sliceOp2 at hK
  split at hK
  case h_3 => exact s_slice h ho hK
  · rename_i nm hxe
    have hx := rep_opv h x
    rw [hxe] at hx
    split at hK
    case h_3 => exact hK.elim
    case h_2 =>
      rename_i d sz nn l e kj j hd hno he hlo hhi
      obtain ⟨hok, hsz1, rfl, hj0, hj1, hK⟩ := hK
      have hu := telem_spec he
      obtain ⟨ie, de, hie, hde⟩ := tok_spec hok
      have ehi : hi = none := by cases hi with | none => rfl | some q => simp at hhi
      subst ehi
      obtain ⟨q, rfl, hq⟩ : ∃ q, lo = some q ∧ a.eval q = .int kj j := by
        cases lo with
        | none => simp at hlo
        | some q =>
          simp only [Option.map_some, Option.some.injEq] at hlo
          have := rep_opv h q
          rw [hlo] at this
          exact ⟨q, rfl, rep_val this⟩
      simp only [Rep] at hx
      obtain ⟨v', hv', hr⟩ := h.ob nm _ hno
      rw [hx.2] at hv'
      cases hv'
      simp only [Rep] at hr
      rcases hr with ⟨hv, rfl, rfl, hF⟩ | ⟨b, n, cp, C, ty, B', hv, hF, hC, hns, hnc, hcC, hr⟩
      · simp at hj1; omega
      · rw [Nat.mul_one] at hns
        have e2 := run_sliceBound (P := P) w kj j n .sliceB hj0 (by omega)
        have run : (execOp a.eval o).run P w = .ok (.value (.slice (some ((⟨b, 0, none⟩ : Addr).add j.toNat)) (n - j.toNat) (cp - j.toNat))) w := by
          simp [execOp, ho, hv, hq, Instr.sliceAt, Instr.slice, run_underlying hu, Instr.sliceBounds, e2, run_sizeOf' hie, hsz1]
          intro _
          omega
        refine goes_pure h _ rfl rfl run (Same.refl w) hK ?_
        simp only [Rep]
        exact ⟨trivial, _, n, cp, by rw [hx.2, hv], by omega, hnc, rfl⟩
    rename_i d sz nn l e kj j hd hno he hlo hhi
    obtain ⟨hok, hsz, hpos, hj0, hj1, hK⟩ := hK
    have hu := telem_spec he
    obtain ⟨ie, de, hie, hde⟩ := tok_spec hok
    have elo : lo = none := by cases lo with | none => rfl | some q => simp at hlo
    subst elo
    obtain ⟨q, rfl, hq⟩ : ∃ q, hi = some q ∧ a.eval q = .int kj j := by
      cases hi with
      | none => simp at hhi
      | some q =>
        simp only [Option.map_some, Option.some.injEq] at hhi
        have := rep_opv h q
        rw [hhi] at this
        exact ⟨q, rfl, rep_val this⟩
    simp only [Rep] at hx
    obtain ⟨v', hv', hr⟩ := h.ob nm _ hno
    rw [hx.2] at hv'
    cases hv'
    have hne : st.o nm ≠ none := by rw [hno]; simp
    have run : ∀ base n cp, a.eval x = .slice base n cp → j.toNat ≤ cp → (execOp a.eval o).run P w = .ok (.value (.slice base j.toNat cp)) w := by
      intro base n cp hv hjc
      have e := run_sliceBound (P := P) w kj j cp .sliceAcap hj0 (by omega)
      have hb : (if cp = 0 then base else base.map (·.add 0)) = base := by
        split
        · rfl
        · cases base <;> simp [Addr.add]
      simp [execOp, ho, hv, hq, Instr.sliceAt, Instr.slice, run_underlying hu, Instr.sliceBounds, e, run_sizeOf' hie]
      intro _
      cases base <;> simp [Addr.add]
    have fin : ∀ (B : List Nat) (v : Value), (execOp a.eval o).run P w = .ok (.value v) w → v.oneCell' = true → Rep w I (fun _ => none) (.own sz nn (l.take (j.toNat * sz))) B v → B.Nodup → (∀ b, b ∈ B → b ∈ F nm) → Goes P o c st a w K := by
      intro B v hrun hv1 hrep hnod hsub
      refine goes_value _ hrun hK fun hok => ?_
      simp only [Eff.ok, hd, newsOk] at hok
      obtain ⟨hdn, hfree, hnone, hnoR, _⟩ := hok
      have hdrop := h.drop nm
      have hname := hdrop.name (d := d) (x := .own sz nn (l.take (j.toNat * sz))) (B := B) (v := v) hfree hnone (rep_nohdr_of_none hdr hrep) hnoR hv1 hnod
        (fun k hk b hb hbB => by
          simp only [St.node, upd] at hk
          split at hk
          · exact hk rfl
          · rename_i e; exact h.dj nm k (fun e' => e e'.symm) hne hk b (hsub b hbB) hb)
        (fun b hb => h.oi nm hne b (hsub b hb)) (fun b hb => h.oo nm hne b (hsub b hb))
      simp only [St.app, hd, St.ws, St.nws]
      refine ⟨I, _, _, hname.put (hdn d rfl) ?_⟩
      simp only [Rep]
      exact ⟨trivial, upd_same _ _ _⟩
    simp only [Rep] at hr
    rcases hr with ⟨hv, rfl, rfl, hF⟩ | ⟨b, n, cp, C, ty, B', hv, hF, hC, hns, hnc, hcC, hr⟩
    · have hj : j.toNat = 0 := by simp at hj1; omega
      refine fin [] nilSlice ?_ rfl (by simp [Rep]) List.nodup_nil (fun b hb => by cases hb)
      have := run none 0 0 hv (by omega)
      rw [hj] at this
      exact this
    · have hdiv : l.length / sz = n := by rw [← hns, Nat.mul_div_cancel _ hpos]
      rw [hdiv] at hj1
      have hjn : j.toNat ≤ n := by omega
      have hle : j.toNat * sz ≤ l.length := by rw [← hns]; exact Nat.mul_le_mul_right _ hjn
      have hsplit : l = l.take (j.toNat * sz) ++ l.drop (j.toNat * sz) := (List.take_append_drop _ _).symm
      have hr2 := hr
      rw [hsplit] at hr2
      obtain ⟨B₁, B₂, rfl, r1, r2⟩ := hr2.split
      have hnd := h.nd nm hne
      rw [hF] at hnd
      have l1 : (l.take (j.toNat * sz)).length = j.toNat * sz := List.length_take_of_le hle
      rw [← hsplit, l1, List.take_take, Nat.min_eq_left hle] at r1
      refine fin (b :: B₁) _ (run _ _ _ hv (by omega)) rfl ?_ ?_ ?_
      · simp only [Rep]
        refine .inr ⟨b, j.toNat, cp, C, ty, B₁, rfl, rfl, hC, l1.symm, by omega, hcC, ?_⟩
        rw [l1]; exact r1
      · refine List.nodup_cons.2 ⟨fun hb => (List.nodup_cons.1 hnd).1 (by simp [hb]), (List.nodup_append.1 (List.nodup_cons.1 hnd).2).1⟩
      · intro k hk
        rw [hF]
        rcases List.mem_cons.1 hk with rfl | hk
        · simp
        · simp [hk]
  · rename_i hxe
    have hx := rep_opv h x
    rw [hxe] at hx
    have ex := rep_val hx
    split at hK
    case h_2 => exact hK.elim
    rename_i e kj he hlo hhi
    obtain ⟨hok, hK⟩ := hK
    have hu := telem_spec he
    obtain ⟨ie, de, hie, hde⟩ := tok_spec hok
    have elo : lo = none := by cases lo with | none => rfl | some q => simp at hlo
    subst elo
    obtain ⟨q, rfl, hq⟩ : ∃ q, hi = some q ∧ a.eval q = .int kj 0 := by
      cases hi with
      | none => simp at hhi
      | some q =>
        simp only [Option.map_some, Option.some.injEq] at hhi
        have := rep_opv h q
        rw [hhi] at this
        exact ⟨q, rfl, rep_val this⟩
    refine goes_pure h _ rfl rfl (v := .slice none 0 0) (w' := w) ?_ (Same.refl w) hK (by simp [Rep])
    have e := run_sliceBound (P := P) w kj 0 0 .sliceAcap (by omega) (by omega)
    simp at e
    simp [execOp, ho, ex, hq, Instr.sliceAt, Instr.slice, run_underlying hu, Instr.sliceBounds, e, run_sizeOf' hie]

theorem s_index (h : StRelAt c st a w I hdr F) {t : TypeId} {x ix : Operand} {K : Eff → Prop} (ho : o.op = .index t x ix) (hK : indexOp P t (opv st x) (opv st ix) K) : Goes P o c st a w K := by
  have hx := rep_opv h x
  have hix := rep_opv h ix
  unfold indexOp at hK
  split at hK
  case h_2 => exact hK.elim
  rename_i s k i hs hi
  rw [hs] at hx
  rw [hi] at hix
  obtain ⟨ht, h0, h1, hK⟩ := hK
  have hu : P.underlying t = some .string := by
    unfold tstr at ht
    split at ht
    · assumption
    · cases ht
  have hlt : i.toNat < s.size := by omega
  refine goes_pure h (v := .int .u8 (s[i.toNat]'hlt).toNat) (w' := w) _ rfl rfl ?_ (Same.refl w) hK ?_
  · have : s[i.toNat]? = some (s[i.toNat]'hlt) := by simp [hlt]
    simp [execOp, ho, rep_val hx, rep_val hix, Instr.index, asIntOf, run_underlying hu, h0, this]
  · simp only [Rep]
    refine ⟨trivial, ?_⟩
    have : s.toList.getD i.toNat 0 = s[i.toNat]'hlt := by
      rw [List.getD_eq_getElem?_getD]
      have e : s.toList[i.toNat]? = some (s[i.toNat]'hlt) := by
        rw [ByteArray.toList_eq, List.getElem?_eq_getElem (by simpa using hlt)]
        rfl
      rw [e]; rfl
    rw [this]

theorem appOld_spec (h : StRelAt c st a w I hdr F) {x : AV} {v : Value} {sz : Nat} {nn : Bool} {l : List AV} {nm : Option Nat} (hs : appOld st x = some (sz, nn, l, nm)) (hx : Rep w I hdr x [] v) :
    (nm = none ∧ v = nilSlice ∧ l = [] ∧ nn = false) ∨ ∃ k, nm = some k ∧ st.o k = some (.own sz nn l) ∧ hdr k = some v ∧ Rep w I hdr (.own sz nn l) (F k) v := by
  cases x with
  | ref k =>
    simp only [appOld] at hs
    unfold slNode at hs
    split at hs
    case h_2 => cases hs
    rename_i sz' nn' l' ho
    simp only [Option.some.injEq, Prod.mk.injEq] at hs
    obtain ⟨rfl, rfl, rfl, rfl⟩ := hs
    simp only [Rep] at hx
    obtain ⟨v', hv', hr⟩ := h.ob k _ ho
    rw [hx.2] at hv'
    cases hv'
    exact .inr ⟨k, rfl, ho, hx.2, hr⟩
  | val u =>
    simp only [appOld] at hs
    unfold slVal at hs
    split at hs
    case h_2 => cases hs
    simp only [Option.some.injEq, Prod.mk.injEq] at hs
    obtain ⟨rfl, rfl, rfl, rfl⟩ := hs
    exact .inl ⟨rfl, by simp only [Rep] at hx; exact hx.2, rfl, rfl⟩
  | _ => simp [appOld] at hs

theorem used_none (o : Option Nat) : ∀ p ∈ used o, p.2 = none := by
  cases o <;> simp [used]

theorem run_room {t e ty' : TypeId} {i : TypeInfo} {ty : TypeId} (ht : P.underlying t = some (.slice e)) (hi : P.info? e = some i) (g sLen sCap : Nat) (cur : Array Value) (hg : Row w g cur ty)
    (b : Addr) (m cp : Nat) (news : List Value) (hl : news.length = m * i.size) (hnews : ∀ j u, news[j]? = some u → w.cell? (b.add j) = some u) (h1 : ∀ u ∈ news, u.oneCell' = true)
    (hroom : sLen + m ≤ sCap) (hfit : sLen * i.size + news.length ≤ cur.size) :
    (Builtin.append_ #[t, t] ty' #[.slice (some ⟨g, 0, none⟩) sLen sCap, .slice (some b) m cp]).run P w =
      .ok (.slice (some ⟨g, 0, none⟩) (sLen + m) sCap) (w.setRow g (cur.toList.take (sLen * i.size) ++ news ++ cur.toList.drop (sLen * i.size + news.length)).toArray) := by
  have hf := run_firstCells_some (P := P) w i.size m b m cp news hl hnews
  have hst := run_storeCells_row (P := P) g (sLen * i.size) ty news 0 cur w hg (by simpa using hfit) h1
  simp only [Nat.add_zero] at hst
  simp [Builtin.append_, run_underlying ht, sizeOf, typeInfo, hi, Builtin.lenOf, hroom, hf, Addr.add_lit, hst]

theorem alloc_old (w : World) (o : Obj) (b : Nat) (hb : b < w.heap.size) : (w.drew.alloc o).heap[b]? = w.heap[b]? := by
  show (w.heap.push o)[b]? = _
  rw [Array.getElem?_push, if_neg (by omega)]
theorem alloc_new (w : World) (o : Obj) : (w.drew.alloc o).heap[w.heap.size]? = some o := by
  show (w.heap.push o)[w.heap.size]? = _
  simp

/-- Nothing is appended. -/
theorem run_append_zero {t e ty' : TypeId} {i : TypeInfo} (ht : P.underlying t = some (.slice e)) (hi : P.info? e = some i) (base : Option Addr) (n cp : Nat) (hn : n ≤ cp) (b : Option Addr) (cp' : Nat) :
    (Builtin.append_ #[t, t] ty' #[.slice base n cp, .slice b 0 cp']).run P w = .ok (.slice base n cp) w := by
  cases base <;> cases b <;> simp [Builtin.append_, run_underlying ht, sizeOf, typeInfo, hi, Builtin.lenOf, Builtin.firstCells, loadCells, loadCellsFrom, hn, storeCells]

theorem s_appendZ (h : StRelAt c st a w I hdr F) {t t' e : TypeId} {d : Nat} {x y : Operand} {K : Eff → Prop} (ho : o.op = .call { callee := .builtin .append, args := #[x, y], argTypes := #[t, t'] }) (hd : o.dst = some d) (he : telem P t = some e)
    (hK : appendZ P d e t' (opv st x) (opv st y) K) : Goes P o c st a w K := by
  have hx := rep_opv h x
  have hy := rep_opv h y
  have hu := telem_spec he
  unfold appendZ at hK
  split at hK
  case h_2 => exact hK.elim
  rename_i k n z hxe hye hz
  rw [hxe] at hx
  rw [hye] at hy
  have ex := rep_val hx
  have ey := rep_val hy
  obtain ⟨hint, hok, h0, hzs, hn0, hn1, hby, hK⟩ := hK
  obtain ⟨i, ds, hi, hds⟩ := tok_spec hok
  unfold tzero at hz
  rw [hi] at hz
  simp only [Option.bind_some] at hz
  have hts := tsize_info hi
  rw [tbytes_info hi] at hby
  obtain ⟨m, rfl⟩ := Int.eq_ofNat_of_zero_le (by omega : 0 ≤ n)
  simp only [Int.toNat_natCast] at hby hK
  obtain ⟨kn, hkn⟩ : ∃ kn, P.underlying t' = some (.int kn) := by
    unfold tint at hint
    split at hint
    · rename_i kn hu'; exact ⟨kn, hu'⟩
    · cases hint
  have hrun := Lib.run_append_nil_zeros (P := P) w t t' o.type e i z k kn hu hkn hi hz m (by omega) (by omega) hn1 hby
  have hexec : (execOp a.eval o).run P w = .ok (.value (.slice (some ⟨w.heap.size, 0, none⟩) m (grownCap w m 0 e))) (w.drew.alloc (.cells (Builtin.zeroCells z.cells m ++ Builtin.zeroCells z.cells (grownCap w m 0 e - m)) e)) := by
    simp [execOp, ho, resolve, invoke, builtin, ex, ey, hrun]
  have hge := grownCap_ge w m 0 e
  have hzc : (Builtin.zeroCells z.cells m).toList = (List.replicate m z.cells.toList).flatten := by
    unfold Builtin.zeroCells
    exact range_mod_flatten z.cells (by omega) m
  have hfl : ((List.replicate m (z.cells.toList.map AV.val)).flatten).length = m * tsize P e := by
    rw [List.length_flatten, List.map_replicate, List.sum_replicate_nat, List.length_map, Array.length_toList, hzs]
  refine goes_value _ hexec hK fun hok => ?_
  simp only [Eff.ok, hd, St.ws, newsOk] at hok
  obtain ⟨hdn, hfree, hnone, hno, _⟩ := hok
  have h' := h.grow (w' := w.drew.alloc (.cells (Builtin.zeroCells z.cells m ++ Builtin.zeroCells z.cells (grownCap w m 0 e - m)) e)) (fun b hb => alloc_old w _ b hb) (by simp) rfl rfl (by first | exact ⟨rfl, Nat.le_refl _⟩ | exact ⟨rfl, Nat.le_succ _⟩)
  have h2 := h'.name hfree hnone (x := .own (tsize P e) true ((List.replicate m (z.cells.toList.map AV.val)).flatten)) (B := [w.heap.size]) (v := .slice (some ⟨w.heap.size, 0, none⟩) m (grownCap w m 0 e))
    (by
      simp only [Rep]
      refine .inr ⟨w.heap.size, m, _, _, e, [], rfl, rfl, .mk0 (alloc_new w _), hfl.symm, hge, ?_, ?_⟩
      · rw [Array.size_append, size_zeroCells, size_zeroCells, hzs, ← Nat.add_mul]
        exact Nat.mul_le_mul_right _ (by omega)
      · have : ((Builtin.zeroCells z.cells m ++ Builtin.zeroCells z.cells (grownCap w m 0 e - m)).toList.take ((List.replicate m (z.cells.toList.map AV.val)).flatten).length) = (List.replicate m z.cells.toList).flatten := by
          rw [Array.toList_append, hzc]
          have hl : ((List.replicate m (z.cells.toList.map AV.val)).flatten).length = ((List.replicate m z.cells.toList).flatten).length := by simp [List.length_flatten]
          rw [hl]; exact List.take_left
        rw [this]
        exact flatten_rep (repL_val _ I (fun _ => none) _) m) hno rfl (by simp)
    (fun nm hx b hb hbB => by have := h.F_lt hx hb; simp at hbB; omega)
    (fun b hb hI => by have := h.hIlt b hI; simp at hb; omega) (fun b hb => by right; have := h.size; simp at hb; omega)
  simp only [St.app, hd, St.ws, St.nws]
  refine ⟨I, _, _, h2.put (hdn d rfl) ?_⟩
  simp only [Rep]
  exact ⟨trivial, upd_same _ _ _⟩

theorem opwOf_spec (h : StRelAt c st a w I hdr F) {x : AV} {v : Value} {k sz : Nat} {l : List AV} (hs : opwOf st x = some (k, sz, l)) (hx : Rep w I hdr x [] v) :
    st.o k = some (.opw sz l) ∧ Rep w I hdr (.opw sz l) (F k) v := by
  cases x with
  | ref nm =>
    simp only [opwOf] at hs
    split at hs
    case h_2 => cases hs
    rename_i sz' l' ho
    simp only [Option.some.injEq, Prod.mk.injEq] at hs
    obtain ⟨rfl, rfl, rfl⟩ := hs
    simp only [Rep] at hx
    obtain ⟨v', hv', hr⟩ := h.ob nm _ ho
    rw [hx.2] at hv'
    cases hv'
    exact ⟨ho, hr⟩
  | _ => simp [opwOf] at hs
theorem appOldW_spec (h : StRelAt c st a w I hdr F) {x : AV} {v : Value} {k sz : Nat} {l : List AV} (hs : appOldW st x = some (k, sz, l)) (hx : Rep w I hdr x [] v) :
    st.o k ≠ none ∧ Rep w I hdr (.opw sz l) (F k) v := by
  cases x with
  | ref nm =>
    simp only [appOldW] at hs
    split at hs
    case h_3 => cases hs
    · rename_i sz' l' ho
      simp only [Option.some.injEq, Prod.mk.injEq] at hs
      obtain ⟨rfl, rfl, rfl⟩ := hs
      simp only [Rep] at hx
      obtain ⟨v', hv', hr⟩ := h.ob nm _ ho
      rw [hx.2] at hv'
      cases hv'
      exact ⟨by rw [ho]; simp, hr⟩
    · rename_i sz' l' ho
      simp only [Option.some.injEq, Prod.mk.injEq] at hs
      obtain ⟨rfl, rfl, rfl⟩ := hs
      simp only [Rep] at hx
      obtain ⟨v', hv', hr⟩ := h.ob nm _ ho
      rw [hx.2] at hv'
      cases hv'
      refine ⟨by rw [ho]; simp, ?_⟩
      simp only [Rep] at hr ⊢
      rcases hr with ⟨_, _, e, _⟩ | ⟨b, n, c, C, ty, B', h1, h2, h3, h4, h5, h6, h7⟩
      · cases e
      · exact ⟨b, n, c, C, ty, B', h1, h2, h3, h4, h5, h6, repL_nohdr_of_none hdr h7⟩
  | _ => simp [appOldW] at hs
/-- Open rows are appended. -/
theorem s_appendW (h : StRelAt c st a w I hdr F) {t t' e : TypeId} {d : Nat} {x y : Operand} {K : Eff → Prop} {k' sz' : Nat} {l' : List AV} (ho : o.op = .call { callee := .builtin .append, args := #[x, y], argTypes := #[t, t'] })
    (hd : o.dst = some d) (he : telem P t = some e) (hs' : opwOf st (opv st y) = some (k', sz', l')) (hK : appendW P st d e t t' (opv st x) k' sz' l' K) : Goes P o c st a w K := by
  have hx := rep_opv h x
  have hy := rep_opv h y
  have hu := telem_spec he
  unfold appendW at hK
  split at hK
  case h_2 => exact hK.elim
  rename_i z k sz l hz hs
  obtain ⟨rfl, hok, h0, hzs, rfl, rfl, h1, hne, hby, hbig, hK⟩ := hK
  obtain ⟨i, ds, hi, hds⟩ := tok_spec hok
  unfold tzero at hz
  rw [hi] at hz
  simp only [Option.bind_some] at hz
  have hts := tsize_info hi
  rw [tbytes_info hi] at hby
  obtain ⟨ho', hry⟩ := opwOf_spec h hs' hy
  obtain ⟨hko, hrx⟩ := appOldW_spec h hs hx
  have hko' : st.o k' ≠ none := by rw [ho']; simp
  have run : ∀ v' w', (Builtin.append_ #[t, t] o.type #[a.eval x, a.eval y]).run P w = .ok v' w' → (execOp a.eval o).run P w = .ok (.value v') w' := by
    intro v' w' hr
    simp [execOp, ho, resolve, invoke, builtin, hr]
  have wsn : ∀ p ∈ [((k, none) : Nat × Option AV), (k', none)], p.2 = none := fun p hp => by
    simp at hp; rcases hp with rfl | rfl <;> rfl
  have fin : ∀ (v' : Value) (w' : World) (X B : List Nat), (Builtin.append_ #[t, t] o.type #[a.eval x, a.eval y]).run P w = .ok v' w' → v'.oneCell' = true →
      (∀ b, b ∈ X → b ∈ F k) → (∀ b : Nat, b < w.heap.size → b ∉ X → w'.heap[b]? = w.heap[b]?) → w.heap.size ≤ w'.heap.size → w'.os = w.os → w'.tape = w.tape → OutOk w' w →
      Rep w' I hdr (.opw (tsize P e) (l ++ l')) B v' → B.Nodup → (∀ b, b ∈ B → b ∈ F k ∨ b ∈ F k' ∨ w.heap.size ≤ b) → Goes P o c st a w K := by
    intro v' w' X B hrun hv1 hX hw hsz ho1 ho2 ho3 hrep hnod hBs
    refine goes_value _ (run _ _ hrun) hK fun hok => ?_
    simp only [Eff.ok, hd, newsOk] at hok
    obtain ⟨hdn, hfree, hnone, hno, _⟩ := hok
    have hdrop := ws_none [((k, none) : Nat × Option AV), (k', none)] wsn h
    have live : ∀ j, (st.ws [((k, none) : Nat × Option AV), (k', none)]).o j ≠ none → st.o j ≠ none ∧ k ≠ j ∧ k' ≠ j := by
      intro j hj
      obtain ⟨h1, h2⟩ := ws_o _ wsn hj
      exact ⟨h1, h2 (k, none) (by simp), h2 (k', none) (by simp)⟩
    have hworld := hdrop.world X (fun b hb hI => h.oi k hko b (hX b hb) hI)
      (fun j hj b hb hbX => by obtain ⟨h1, h2, _⟩ := live j hj; exact h.dj k j h2 hko h1 b (hX b hbX) hb)
      (fun b hb => h.oo k hko b (hX b hb)) hw hsz ho1 ho2 ho3
    have hname := hworld.name hfree hnone (x := .opw (tsize P e) (l ++ l')) (B := B) (v := v') hrep hno hv1 hnod
      (fun j hj b hb hbB => by
        obtain ⟨h1, h2, h3⟩ := live j hj
        rcases hBs b hbB with hb' | hb' | hb'
        · exact h.dj k j h2 hko h1 b hb' hb
        · exact h.dj k' j h3 hko' h1 b hb' hb
        · have := h.F_lt h1 hb; omega)
      (fun b hb hI => by
        rcases hBs b hb with hb' | hb' | hb'
        · exact h.oi k hko b hb' hI
        · exact h.oi k' hko' b hb' hI
        · have := h.hIlt b hI; omega)
      (fun b hb => by
        rcases hBs b hb with hb' | hb' | hb'
        · exact h.oo k hko b hb'
        · exact h.oo k' hko' b hb'
        · right; have := h.size; omega)
    simp only [St.app, hd, St.nws]
    refine ⟨I, _, _, hname.put (by simp only [St.node, ws_n]; exact hdn d rfl) ?_⟩
    simp only [Rep]
    exact ⟨trivial, upd_same _ _ _⟩
  simp only [Rep] at hrx hry
  obtain ⟨g, n, cap, C, ty, B', hv, hFk, hC, hn, hnc, hcC, hr0⟩ := hrx
  obtain ⟨g', m, cp, C', ty', B, hv', hFk', hC', hm, hmc, hcC', hr⟩ := hry
  have hcs : CellsAt w ⟨g', 0, none⟩ (C'.toList.take l'.length) := cellsAt_take hC' l'.length
  generalize C'.toList.take l'.length = us at hr hcs
  have hBk : ∀ b, b ∈ B → b ∈ F k' := fun b hb => by rw [hFk']; simp [hb]
  have hBn : B.Nodup := by have := h.nd k' hko'; rw [hFk'] at this; exact (List.nodup_cons.1 this).2
  have hone : ∀ u ∈ us, u.oneCell' = true := all_one h.hone h1 hr
  have hndk := h.nd k hko
  rw [hFk] at hndk
  have hgF : g ∈ F k := by rw [hFk]; simp
  have hgI : ¬ I g := h.oi k hko g hgF
  have hl0 := hr0.length
  have hdl : l.length / tsize P e = n := by rw [← hn, Nat.mul_div_cancel _ h0]
  have hus := hr.length
  have hdiv : l'.length / tsize P e = m := by rw [← hm, Nat.mul_div_cancel _ h0]
  have hBdis : ∀ b, b ∈ B → b ∉ F k := fun b hb hbk => h.dj k' k (fun e => hne e.symm) hko' hko b (hBk b hb) hbk
  have hCl : l.length ≤ C.size := by rw [← hn]; exact Nat.le_trans (Nat.mul_le_mul_right _ hnc) hcC
  have hlen2 : (n + m) * tsize P e = (l ++ l').length := by rw [List.length_append, Nat.add_mul, hn, hm]
  rw [hdl, hdiv] at hby hbig
  by_cases hm' : m = 0
  · subst hm'
    have hl0' : l' = [] := List.eq_nil_of_length_eq_zero (by rw [← hm]; simp)
    subst hl0'
    refine fin (a.eval x) w [] (F k) ?_ (by rw [hv]; rfl) (fun b hb => by cases hb) (fun b _ _ => rfl) (Nat.le_refl _) rfl rfl (by first | exact ⟨rfl, Nat.le_refl _⟩ | exact ⟨rfl, Nat.le_succ _⟩) ?_ (h.nd k hko) (fun b hb => .inl hb)
    · rw [hv, hv']; exact run_append_zero hu hi (some _) n cap hnc (some _) cp
    · simp only [Rep, List.append_nil]
      exact ⟨g, n, cap, C, ty, B', hv, hFk, hC, hn, hnc, hcC, hr0⟩
  by_cases hroom : n + m ≤ cap
  · have hfit : n * i.size + us.length ≤ C.size := by
      rw [hus, ← hts, ← hm, ← Nat.add_mul]
      exact Nat.le_trans (Nat.mul_le_mul_right _ hroom) hcC
    have hrun := run_room (P := P) (w := w) (t := t) (ty' := o.type) hu hi g n cap C hC ⟨g', 0, none⟩ m cp us (by rw [hus, ← hm, hts]) hcs hone hroom hfit
    have hw' : ∀ j, j ≠ g → (w.setRow g (C.toList.take (n * i.size) ++ us ++ C.toList.drop (n * i.size + us.length)).toArray).heap[j]? = w.heap[j]? := fun j hj => setRow_other w g j _ hj
    refine fin _ _ [g] (g :: (B' ++ B)) (by rw [hv, hv']; exact hrun) rfl (fun b hb => by simp at hb; rw [hb]; exact hgF) (fun b _ hb => hw' b (by simpa using hb)) (by simp) rfl rfl (by first | exact ⟨rfl, Nat.le_refl _⟩ | exact ⟨rfl, Nat.le_succ _⟩) ?_ ?_ ?_
    · simp only [Rep]
      refine ⟨g, n + m, cap, _, ty, B' ++ B, rfl, rfl, hC.put _ (by simp; omega), hlen2, hroom, ?_, ?_⟩
      · simp; omega
      · have e1 : (C.toList.take (n * i.size) ++ us ++ C.toList.drop (n * i.size + us.length)).take (l ++ l').length = C.toList.take l.length ++ us := by
          rw [← hts, hn]
          have : (l ++ l').length = (C.toList.take l.length ++ us).length := by simp [hus]; omega
          rw [this]; exact List.take_left
        simp only [List.toList_toArray]
        rw [e1]
        have hr0' := RepL.frame (w' := w.setRow g (C.toList.take (n * i.size) ++ us ++ C.toList.drop (n * i.size + us.length)).toArray) (I' := I) (fun _ hb => hb) (fun j hj => hw' j (fun e => hgI (e ▸ hj))) _ _ _
          (fun j hj => hw' j (fun e => by subst e; exact (List.nodup_cons.1 hndk).1 hj)) hr0
        have hr' := RepL.frame (w' := w.setRow g (C.toList.take (n * i.size) ++ us ++ C.toList.drop (n * i.size + us.length)).toArray) (I' := I) (fun _ hb => hb) (fun j hj => hw' j (fun e => hgI (e ▸ hj))) _ _ _
          (fun j hj => hw' j (fun e => by subst e; exact hBdis _ hj hgF)) hr
        exact hr0'.append hr'
    · refine List.nodup_cons.2 ⟨fun hb => ?_, List.nodup_append.2 ⟨(List.nodup_cons.1 hndk).2, hBn, fun b hb b' hb' e => ?_⟩⟩
      · rcases List.mem_append.1 hb with hb | hb
        · exact (List.nodup_cons.1 hndk).1 hb
        · exact hBdis _ hb hgF
      · subst e; exact hBdis b hb' (by rw [hFk]; simp [hb])
    · intro b hb
      rcases List.mem_cons.1 hb with rfl | hb
      · exact .inl hgF
      · rcases List.mem_append.1 hb with hb | hb
        · exact .inl (by rw [hFk]; simp [hb])
        · exact .inr (.inl (hBk b hb))
  · have holds : ∀ j u, (C.toList.take l.length)[j]? = some u → w.cell? ((⟨g, 0, none⟩ : Addr).add j) = some u := cellsAt_take hC l.length
    have hol : (C.toList.take l.length).length = n * i.size := by rw [hl0, ← hn, hts]
    have hrun := run_append_grow (P := P) w t o.type e i z hu hi hz ⟨g, 0, none⟩ n cap (C.toList.take l.length) hol holds ⟨g', 0, none⟩ m cp us (by rw [hus, ← hm, hts]) hcs (by omega) (by omega) (growslice_fits (by omega) hby)
    have hge := grownCap_ge w (n + m) cap e
    refine fin _ _ [] (w.heap.size :: (B' ++ B)) (by rw [hv, hv']; exact hrun) rfl (fun b hb => by cases hb) (fun b hb _ => alloc_old w _ b hb) (by simp) rfl rfl (by first | exact ⟨rfl, Nat.le_refl _⟩ | exact ⟨rfl, Nat.le_succ _⟩) ?_ ?_ ?_
    · simp only [Rep]
      refine ⟨w.heap.size, n + m, _, _, e, B' ++ B, rfl, rfl, .mk0 (alloc_new w _), hlen2, hge, ?_, ?_⟩
      · rw [Array.size_append, Array.size_append, size_zeroCells, hzs, List.size_toArray, List.size_toArray, hl0, hus, ← hm, ← hn, ← Nat.add_mul, ← Nat.add_mul]
        exact Nat.mul_le_mul_right _ (by omega)
      · have e1 : (((C.toList.take l.length).toArray ++ us.toArray ++ Builtin.zeroCells z.cells (grownCap w (n + m) cap e - (n + m))).toList.take (l ++ l').length) = C.toList.take l.length ++ us := by
          simp only [Array.toList_append]
          have : (l ++ l').length = (C.toList.take l.length ++ us).length := by simp [hus]; omega
          rw [this]; exact List.take_left
        rw [e1]
        have hr0' := RepL.frame (I' := I) (fun _ hb => hb) (fun j hj => alloc_old w (.cells ((C.toList.take l.length).toArray ++ us.toArray ++ Builtin.zeroCells z.cells (grownCap w (n + m) cap e - (n + m))) e) j (h.hIlt j hj)) _ _ _
          (fun j hj => alloc_old w _ j (h.F_lt hko (by rw [hFk]; simp [hj]))) hr0
        have hr' := RepL.frame (I' := I) (fun _ hb => hb) (fun j hj => alloc_old w (.cells ((C.toList.take l.length).toArray ++ us.toArray ++ Builtin.zeroCells z.cells (grownCap w (n + m) cap e - (n + m))) e) j (h.hIlt j hj)) _ _ _
          (fun j hj => alloc_old w _ j (h.F_lt hko' (hBk j hj))) hr
        exact hr0'.append hr'
    · refine List.nodup_cons.2 ⟨fun hb => ?_, List.nodup_append.2 ⟨(List.nodup_cons.1 hndk).2, hBn, fun b hb b' hb' e => ?_⟩⟩
      · rcases List.mem_append.1 hb with hb | hb
        · have := h.F_lt hko (show w.heap.size ∈ F k by rw [hFk]; simp [hb]); omega
        · have := h.F_lt hko' (hBk _ hb); omega
      · subst e; exact hBdis b hb' (by rw [hFk]; simp [hb])
    · intro b hb
      rcases List.mem_cons.1 hb with rfl | hb
      · exact .inr (.inr (Nat.le_refl _))
      · rcases List.mem_append.1 hb with hb | hb
        · exact .inl (by rw [hFk]; simp [hb])
        · exact .inr (.inl (hBk b hb))

theorem s_append (h : StRelAt c st a w I hdr F) {t t' : TypeId} {x y : Operand} {K : Eff → Prop} (ho : o.op = .call { callee := .builtin .append, args := #[x, y], argTypes := #[t, t'] }) (hK : appendOp P st o.dst t t' (opv st x) (opv st y) K) : Goes P o c st a w K := by
  have hx := rep_opv h x
  have hy := rep_opv h y
  unfold appendOp at hK
  split at hK
  case h_2 => exact hK.elim
  rename_i d e hd he
  have hu := telem_spec he
  split at hK
  case h_1 => exact s_appendW h ho hd he (by assumption) hK
  split at hK
  case h_2 => exact s_appendZ h ho hd he hK
  rename_i z sz nn l nm sz' nn' l' nm' hz hs hs'
  obtain ⟨rfl, hok, h0, hzs, hsz, hsz', hp', h1, hne, hby, hbig, hK⟩ := hK
  obtain ⟨i, ds, hi, hds⟩ := tok_spec hok
  unfold tzero at hz
  rw [hi] at hz
  simp only [Option.bind_some] at hz
  have hts := tsize_info hi
  rw [tbytes_info hi] at hby
  -- the ways of the call, each told by the value and the world that it leaves
  have run : ∀ v' w', (Builtin.append_ #[t, t] o.type #[a.eval x, a.eval y]).run P w = .ok v' w' → (execOp a.eval o).run P w = .ok (.value v') w' := by
    intro v' w' hr
    simp [execOp, ho, resolve, invoke, builtin, hr]
  have wsn : ∀ p ∈ used nm ++ used nm', p.2 = none := fun p hp => by
    rcases List.mem_append.1 hp with hp | hp
    · exact used_none nm p hp
    · exact used_none nm' p hp
  -- how it ends: the new node's blocks
  have fin : ∀ (v' : Value) (w' : World) (X B : List Nat), (Builtin.append_ #[t, t] o.type #[a.eval x, a.eval y]).run P w = .ok v' w' → v'.oneCell' = true →
      (∀ b, b ∈ X → (∃ k, nm = some k ∧ st.o k ≠ none ∧ b ∈ F k)) → (∀ b : Nat, b < w.heap.size → b ∉ X → w'.heap[b]? = w.heap[b]?) → w.heap.size ≤ w'.heap.size → w'.os = w.os → w'.tape = w.tape → OutOk w' w →
      Rep w' I (fun _ => none) (.own (tsize P e) (nn && nm.isSome) (l ++ l')) B v' → B.Nodup → (∀ b, b ∈ B → (∃ k, (nm = some k ∨ nm' = some k) ∧ st.o k ≠ none ∧ b ∈ F k) ∨ w.heap.size ≤ b) → Goes P o c st a w K := by
    intro v' w' X B hrun hv1 hX hw hsz ho1 ho2 ho3 hrep hnod hBs
    refine goes_value _ (run _ _ hrun) hK fun hok => ?_
    simp only [Eff.ok, hd, newsOk] at hok
    obtain ⟨hdn, hfree, hnone, hno, _⟩ := hok
    have hdrop := ws_none (used nm ++ used nm') wsn h
    have live : ∀ k, (st.ws (used nm ++ used nm')).o k ≠ none → st.o k ≠ none ∧ nm ≠ some k ∧ nm' ≠ some k := by
      intro k hk
      obtain ⟨h1, h2⟩ := ws_o _ wsn hk
      refine ⟨h1, fun e => ?_, fun e => ?_⟩
      · subst e; exact h2 (k, none) (by simp [used]) rfl
      · subst e; exact h2 (k, none) (by simp [used]) rfl
    have hworld := hdrop.world X (fun b hb hI => by obtain ⟨k, _, hk, hb'⟩ := hX b hb; exact h.oi k hk b hb' hI)
      (fun k hk b hb hbX => by obtain ⟨j, hj, hjo, hb'⟩ := hX b hbX; obtain ⟨h1, h2, _⟩ := live k hk; exact h.dj j k (fun e => h2 (e ▸ hj)) hjo h1 b hb' hb)
      (fun b hb => by obtain ⟨k, _, hk, hb'⟩ := hX b hb; exact h.oo k hk b hb') hw hsz ho1 ho2 ho3
    have hname := hworld.name hfree hnone (x := .own (tsize P e) (nn && nm.isSome) (l ++ l')) (B := B) (v := v') (rep_nohdr_of_none hdr hrep) hno hv1 hnod
      (fun k hk b hb hbB => by
        obtain ⟨h1, h2, h3⟩ := live k hk
        rcases hBs b hbB with ⟨j, hj, hjo, hb'⟩ | hb'
        · refine h.dj j k (fun e => ?_) hjo h1 b hb' hb
          subst e
          rcases hj with hj | hj
          · exact h2 hj
          · exact h3 hj
        · have := h.F_lt h1 hb; omega)
      (fun b hb hI => by
        rcases hBs b hb with ⟨j, hj, hjo, hb'⟩ | hb'
        · exact h.oi j hjo b hb' hI
        · have := h.hIlt b hI; omega)
      (fun b hb => by
        rcases hBs b hb with ⟨j, hj, hjo, hb'⟩ | hb'
        · exact h.oo j hjo b hb'
        · right; have := h.size; omega)
    simp only [St.app, hd, St.nws]
    refine ⟨I, _, _, hname.put (by simp only [St.node, ws_n]; exact hdn d rfl) ?_⟩
    simp only [Rep]
    exact ⟨trivial, upd_same _ _ _⟩
  -- the cells to be appended
  have hy2 : (a.eval y = nilSlice ∧ l' = []) ∨ ∃ ad m cp us B, a.eval y = .slice (some ad) m cp ∧ m * tsize P e = l'.length ∧ CellsAt w ad us ∧ RepL w I (fun _ => none) l' B us ∧ B.Nodup ∧ (∀ b, b ∈ B → ∃ k, nm' = some k ∧ st.o k ≠ none ∧ b ∈ F k) ∧ (l' = [] → m = 0) := by
    rcases slOf_spec h hs' hy with ⟨e1, e2, _⟩ | ⟨ad, m, cp, us, B, hv, hn, hc, hcs, hr, hm⟩
    · exact .inl ⟨e1, e2⟩
    · refine .inr ⟨ad, m, cp, us, B, hv, ?_, hcs, hr, ?_, ?_, ?_⟩
      · rcases hsz' with rfl | rfl
        · have : m = 0 := by
            rcases Nat.mul_eq_zero.1 hn with h | h
            · exact h
            · omega
          subst this; simp
        · exact hn
      · cases nm' with
        | none => rw [hm.1]; simp
        | some k => exact hm.2.2.2
      · intro b hb
        cases nm' with
        | none => rw [hm.1] at hb; cases hb
        | some k => exact ⟨k, rfl, by rw [hm.2.1]; simp, hm.2.2.1 b hb⟩
      · rintro rfl
        rcases Nat.mul_eq_zero.1 hn with h | h
        · exact h
        · omega
  have hone : ∀ us B, RepL w I (fun _ => none) l' B us → ∀ u ∈ us, u.oneCell' = true := fun us B hr => all_one (hdr := fun _ => none) (fun _ _ h => by cases h) h1 hr
  rcases appOld_spec h hs hx with ⟨rfl, hv, rfl, rfl⟩ | ⟨k, rfl, hok', hhk, hrk⟩
  · -- from nil
    rcases hy2 with ⟨hv', rfl⟩ | ⟨ad, m, cp, us, B, hv', hm, hcs, hr, hBn, hBk, hm0⟩
    · refine fin nilSlice w [] [] ?_ rfl (fun b hb => by cases hb) (fun b _ _ => rfl) (Nat.le_refl _) rfl rfl (by first | exact ⟨rfl, Nat.le_refl _⟩ | exact ⟨rfl, Nat.le_succ _⟩) ?_ List.nodup_nil (fun b hb => by cases hb)
      · rw [hv, hv']; exact run_append_zero hu hi none 0 0 (Nat.le_refl _) none 0
      · simp [Rep]
    · by_cases hm' : m = 0
      · subst hm'
        have hl0 : l' = [] := List.eq_nil_of_length_eq_zero (by rw [← hm]; simp)
        subst hl0
        refine fin nilSlice w [] [] ?_ rfl (fun b hb => by cases hb) (fun b _ _ => rfl) (Nat.le_refl _) rfl rfl (by first | exact ⟨rfl, Nat.le_refl _⟩ | exact ⟨rfl, Nat.le_succ _⟩) ?_ List.nodup_nil (fun b hb => by cases hb)
        · rw [hv, hv']; exact run_append_zero hu hi none 0 0 (Nat.le_refl _) (some ad) cp
        · simp [Rep]
      · have hus := hr.length
        have hdiv : l'.length / tsize P e = m := by rw [← hm, Nat.mul_div_cancel _ h0]
        simp only [List.length_nil, Nat.zero_div, Nat.zero_add, hdiv] at hby hbig
        have hrun := run_append_nil (P := P) w t o.type e i z hu hi hz ad m cp us (by rw [hus, ← hm, hts]) hcs (by omega) (by omega) (by omega)
        have hge := grownCap_ge w m 0 e
        refine fin _ _ [] (w.heap.size :: B) (by rw [hv, hv']; exact hrun) rfl (fun b hb => by cases hb) (fun b hb _ => alloc_old w _ b hb) (by simp) rfl rfl (by first | exact ⟨rfl, Nat.le_refl _⟩ | exact ⟨rfl, Nat.le_succ _⟩) ?_ ?_ ?_
        · simp only [Rep, List.nil_append]
          refine .inr ⟨w.heap.size, m, _, _, e, B, rfl, rfl, .mk0 (alloc_new w _), hm, hge, ?_, ?_⟩
          · simp only [Array.size_append, List.size_toArray, size_zeroCells, hzs, hus, ← hm, ← Nat.add_mul]
            exact Nat.mul_le_mul_right _ (by omega)
          · have : ((us.toArray ++ Builtin.zeroCells z.cells (grownCap w m 0 e - m)).toList.take l'.length) = us := by
              simp only [Array.toList_append]
              rw [← hus]; exact List.take_left
            rw [this]
            exact RepL.frame (fun _ hb => hb) (fun b hb => alloc_old w _ b (h.hIlt b hb)) _ _ _ (fun b hb => alloc_old w _ b (by obtain ⟨k, _, hk, hb'⟩ := hBk b hb; exact h.F_lt hk hb')) hr
        · refine List.nodup_cons.2 ⟨fun hb => ?_, hBn⟩
          obtain ⟨k, _, hk, hb'⟩ := hBk _ hb
          have := h.F_lt hk hb'
          omega
        · intro b hb
          rcases List.mem_cons.1 hb with rfl | hb
          · exact .inr (Nat.le_refl _)
          · obtain ⟨k, hk, hk2, hb'⟩ := hBk b hb
            exact .inl ⟨k, .inr hk, hk2, hb'⟩
  · -- onto a node
    have hko : st.o k ≠ none := by rw [hok']; simp
    have hnn : (nn && (some k).isSome) = nn := by simp
    rw [hnn] at fin
    have hszk : tsize P e = sz := by
      rcases hsz with h | h
      · cases h
      · exact h
    subst hszk
    have hne' : nm' ≠ some k := by
      rcases hne with h | h
      · cases h
      · exact fun e => h e.symm
    simp only [Rep] at hrk
    rcases hrk with ⟨hv, rfl, rfl, hFk⟩ | ⟨g, n, cap, C, ty, B', hv, hFk, hC, hn, hnc, hcC, hr0⟩
    · -- whose header is nil
      rcases hy2 with ⟨hv', rfl⟩ | ⟨ad, m, cp, us, B, hv', hm, hcs, hr, hBn, hBk, hm0⟩
      · refine fin nilSlice w [] [] ?_ rfl (fun b hb => by cases hb) (fun b _ _ => rfl) (Nat.le_refl _) rfl rfl (by first | exact ⟨rfl, Nat.le_refl _⟩ | exact ⟨rfl, Nat.le_succ _⟩) ?_ List.nodup_nil (fun b hb => by cases hb)
        · rw [hv, hv']; exact run_append_zero hu hi none 0 0 (Nat.le_refl _) none 0
        · simp [Rep]
      · by_cases hm' : m = 0
        · subst hm'
          have hl0 : l' = [] := List.eq_nil_of_length_eq_zero (by rw [← hm]; simp)
          subst hl0
          refine fin nilSlice w [] [] ?_ rfl (fun b hb => by cases hb) (fun b _ _ => rfl) (Nat.le_refl _) rfl rfl (by first | exact ⟨rfl, Nat.le_refl _⟩ | exact ⟨rfl, Nat.le_succ _⟩) ?_ List.nodup_nil (fun b hb => by cases hb)
          · rw [hv, hv']; exact run_append_zero hu hi none 0 0 (Nat.le_refl _) (some ad) cp
          · simp [Rep]
        · have hus := hr.length
          have hdiv : l'.length / tsize P e = m := by rw [← hm, Nat.mul_div_cancel _ h0]
          simp only [List.length_nil, Nat.zero_div, Nat.zero_add, hdiv] at hby hbig
          have hrun := run_append_nil (P := P) w t o.type e i z hu hi hz ad m cp us (by rw [hus, ← hm, hts]) hcs (by omega) (by omega) (by omega)
          have hge := grownCap_ge w m 0 e
          refine fin _ _ [] (w.heap.size :: B) (by rw [hv, hv']; exact hrun) rfl (fun b hb => by cases hb) (fun b hb _ => alloc_old w _ b hb) (by simp) rfl rfl (by first | exact ⟨rfl, Nat.le_refl _⟩ | exact ⟨rfl, Nat.le_succ _⟩) ?_ ?_ ?_
          · simp only [Rep, List.nil_append]
            refine .inr ⟨w.heap.size, m, _, _, e, B, rfl, rfl, .mk0 (alloc_new w _), hm, hge, ?_, ?_⟩
            · simp only [Array.size_append, List.size_toArray, size_zeroCells, hzs, hus, ← hm, ← Nat.add_mul]
              exact Nat.mul_le_mul_right _ (by omega)
            · have : ((us.toArray ++ Builtin.zeroCells z.cells (grownCap w m 0 e - m)).toList.take l'.length) = us := by
                simp only [Array.toList_append]
                rw [← hus]; exact List.take_left
              rw [this]
              exact RepL.frame (fun _ hb => hb) (fun b hb => alloc_old w _ b (h.hIlt b hb)) _ _ _ (fun b hb => alloc_old w _ b (by obtain ⟨k, _, hk, hb'⟩ := hBk b hb; exact h.F_lt hk hb')) hr
          · refine List.nodup_cons.2 ⟨fun hb => ?_, hBn⟩
            obtain ⟨k, _, hk, hb'⟩ := hBk _ hb
            have := h.F_lt hk hb'
            omega
          · intro b hb
            rcases List.mem_cons.1 hb with rfl | hb
            · exact .inr (Nat.le_refl _)
            · obtain ⟨k, hk, hk2, hb'⟩ := hBk b hb
              exact .inl ⟨k, .inr hk, hk2, hb'⟩
    · have hndk := h.nd k hko
      rw [hFk] at hndk
      have hgF : g ∈ F k := by rw [hFk]; simp
      have hgI : ¬ I g := h.oi k hko g hgF
      have hl0 := hr0.length
      have hdl : l.length / tsize P e = n := by rw [← hn, Nat.mul_div_cancel _ h0]
      rcases hy2 with ⟨hv', rfl⟩ | ⟨ad, m, cp, us, B, hv', hm, hcs, hr, hBn, hBk, hm0⟩
      · refine fin (a.eval x) w [] (F k) ?_ (by rw [hv]; rfl) (fun b hb => by cases hb) (fun b _ _ => rfl) (Nat.le_refl _) rfl rfl (by first | exact ⟨rfl, Nat.le_refl _⟩ | exact ⟨rfl, Nat.le_succ _⟩) ?_ (h.nd k hko) (fun b hb => .inl ⟨k, .inl rfl, hko, hb⟩)
        · rw [hv, hv']; exact run_append_zero hu hi (some _) n cap hnc none 0
        · simp only [Rep, List.append_nil]
          exact .inr ⟨g, n, cap, C, ty, B', hv, hFk, hC, hn, hnc, hcC, hr0⟩
      · by_cases hm' : m = 0
        · subst hm'
          have hl0' : l' = [] := List.eq_nil_of_length_eq_zero (by rw [← hm]; simp)
          subst hl0'
          refine fin (a.eval x) w [] (F k) ?_ (by rw [hv]; rfl) (fun b hb => by cases hb) (fun b _ _ => rfl) (Nat.le_refl _) rfl rfl (by first | exact ⟨rfl, Nat.le_refl _⟩ | exact ⟨rfl, Nat.le_succ _⟩) ?_ (h.nd k hko) (fun b hb => .inl ⟨k, .inl rfl, hko, hb⟩)
          · rw [hv, hv']; exact run_append_zero hu hi (some _) n cap hnc (some ad) cp
          · simp only [Rep, List.append_nil]
            exact .inr ⟨g, n, cap, C, ty, B', hv, hFk, hC, hn, hnc, hcC, hr0⟩
        have hus := hr.length
        have hdiv : l'.length / tsize P e = m := by rw [← hm, Nat.mul_div_cancel _ h0]
        rw [hdl, hdiv] at hby hbig
        have hlen2 : (n + m) * tsize P e = (l ++ l').length := by rw [List.length_append, Nat.add_mul, hn, hm]
        have hBdis : ∀ b, b ∈ B → b ∉ F k := fun b hb hbk => by
          obtain ⟨j, hj, hj2, hb'⟩ := hBk b hb
          exact h.dj j k (fun e => hne' (e ▸ hj)) hj2 hko b hb' hbk
        have hCl : l.length ≤ C.size := by rw [← hn]; exact Nat.le_trans (Nat.mul_le_mul_right _ hnc) hcC
        by_cases hroom : n + m ≤ cap
        · have hfit : n * i.size + us.length ≤ C.size := by
            rw [hus, ← hts, ← hm, ← Nat.add_mul]
            exact Nat.le_trans (Nat.mul_le_mul_right _ hroom) hcC
          have hrun := run_room (P := P) (w := w) (t := t) (ty' := o.type) hu hi g n cap C hC ad m cp us (by rw [hus, ← hm, hts]) hcs (hone us B hr) hroom hfit
          have hw' : ∀ j, j ≠ g → (w.setRow g (C.toList.take (n * i.size) ++ us ++ C.toList.drop (n * i.size + us.length)).toArray).heap[j]? = w.heap[j]? := fun j hj => setRow_other w g j _ hj
          refine fin _ _ [g] (g :: (B' ++ B)) (by rw [hv, hv']; exact hrun) rfl (fun b hb => ⟨k, rfl, hko, by simp at hb; rw [hb]; exact hgF⟩) (fun b _ hb => hw' b (by simpa using hb)) (by simp) rfl rfl (by first | exact ⟨rfl, Nat.le_refl _⟩ | exact ⟨rfl, Nat.le_succ _⟩) ?_ ?_ ?_
          · simp only [Rep]
            refine .inr ⟨g, n + m, cap, _, ty, B' ++ B, rfl, rfl, hC.put _ (by simp; omega), hlen2, hroom, ?_, ?_⟩
            · simp; omega
            · have e1 : (C.toList.take (n * i.size) ++ us ++ C.toList.drop (n * i.size + us.length)).take (l ++ l').length = C.toList.take l.length ++ us := by
                rw [← hts, hn]
                have : (l ++ l').length = (C.toList.take l.length ++ us).length := by simp [hus]; omega
                rw [this]; exact List.take_left
              simp only [List.toList_toArray]
              rw [e1]
              have hr0' := RepL.frame (w' := w.setRow g (C.toList.take (n * i.size) ++ us ++ C.toList.drop (n * i.size + us.length)).toArray) (I' := I) (fun _ hb => hb) (fun j hj => hw' j (fun e => hgI (e ▸ hj))) _ _ _
                (fun j hj => hw' j (fun e => by subst e; exact (List.nodup_cons.1 hndk).1 hj)) hr0
              have hr' := RepL.frame (w' := w.setRow g (C.toList.take (n * i.size) ++ us ++ C.toList.drop (n * i.size + us.length)).toArray) (I' := I) (fun _ hb => hb) (fun j hj => hw' j (fun e => hgI (e ▸ hj))) _ _ _
                (fun j hj => hw' j (fun e => by subst e; exact hBdis _ hj hgF)) hr
              exact hr0'.append hr'
          · refine List.nodup_cons.2 ⟨fun hb => ?_, List.nodup_append.2 ⟨(List.nodup_cons.1 hndk).2, hBn, fun b hb b' hb' e => ?_⟩⟩
            · rcases List.mem_append.1 hb with hb | hb
              · exact (List.nodup_cons.1 hndk).1 hb
              · exact hBdis _ hb hgF
            · subst e; exact hBdis b hb' (by rw [hFk]; simp [hb])
          · intro b hb
            rcases List.mem_cons.1 hb with rfl | hb
            · exact .inl ⟨k, .inl rfl, hko, hgF⟩
            · rcases List.mem_append.1 hb with hb | hb
              · exact .inl ⟨k, .inl rfl, hko, by rw [hFk]; simp [hb]⟩
              · obtain ⟨j, hj, hj2, hb'⟩ := hBk b hb
                exact .inl ⟨j, .inr hj, hj2, hb'⟩
        · have holds : ∀ j u, (C.toList.take l.length)[j]? = some u → w.cell? ((⟨g, 0, none⟩ : Addr).add j) = some u := cellsAt_take hC l.length
          have hol : (C.toList.take l.length).length = n * i.size := by rw [hl0, ← hn, hts]
          have hrun := run_append_grow (P := P) w t o.type e i z hu hi hz ⟨g, 0, none⟩ n cap (C.toList.take l.length) hol holds ad m cp us (by rw [hus, ← hm, hts]) hcs (by omega) (by omega) (growslice_fits (by omega) hby)
          have hge := grownCap_ge w (n + m) cap e
          refine fin _ _ [] (w.heap.size :: (B' ++ B)) (by rw [hv, hv']; exact hrun) rfl (fun b hb => by cases hb) (fun b hb _ => alloc_old w _ b hb) (by simp) rfl rfl (by first | exact ⟨rfl, Nat.le_refl _⟩ | exact ⟨rfl, Nat.le_succ _⟩) ?_ ?_ ?_
          · simp only [Rep]
            refine .inr ⟨w.heap.size, n + m, _, _, e, B' ++ B, rfl, rfl, .mk0 (alloc_new w _), hlen2, hge, ?_, ?_⟩
            · rw [Array.size_append, Array.size_append, size_zeroCells, hzs, List.size_toArray, List.size_toArray, hl0, hus, ← hm, ← hn, ← Nat.add_mul, ← Nat.add_mul]
              exact Nat.mul_le_mul_right _ (by omega)
            · have e1 : (((C.toList.take l.length).toArray ++ us.toArray ++ Builtin.zeroCells z.cells (grownCap w (n + m) cap e - (n + m))).toList.take (l ++ l').length) = C.toList.take l.length ++ us := by
                simp only [Array.toList_append]
                have : (l ++ l').length = (C.toList.take l.length ++ us).length := by simp [hus]; omega
                rw [this]; exact List.take_left
              rw [e1]
              have hr0' := RepL.frame (I' := I) (fun _ hb => hb) (fun j hj => alloc_old w (.cells ((C.toList.take l.length).toArray ++ us.toArray ++ Builtin.zeroCells z.cells (grownCap w (n + m) cap e - (n + m))) e) j (h.hIlt j hj)) _ _ _
                (fun j hj => alloc_old w _ j (h.F_lt hko (by rw [hFk]; simp [hj]))) hr0
              have hr' := RepL.frame (I' := I) (fun _ hb => hb) (fun j hj => alloc_old w (.cells ((C.toList.take l.length).toArray ++ us.toArray ++ Builtin.zeroCells z.cells (grownCap w (n + m) cap e - (n + m))) e) j (h.hIlt j hj)) _ _ _
                (fun j hj => alloc_old w _ j (by obtain ⟨k, _, hk, hb'⟩ := hBk j hj; exact h.F_lt hk hb')) hr
              exact hr0'.append hr'
          · refine List.nodup_cons.2 ⟨fun hb => ?_, List.nodup_append.2 ⟨(List.nodup_cons.1 hndk).2, hBn, fun b hb b' hb' e => ?_⟩⟩
            · rcases List.mem_append.1 hb with hb | hb
              · have := h.F_lt hko (show w.heap.size ∈ F k by rw [hFk]; simp [hb]); omega
              · obtain ⟨j, hj, hj2, hb'⟩ := hBk _ hb
                have := h.F_lt hj2 hb'; omega
            · subst e; exact hBdis b hb' (by rw [hFk]; simp [hb])
          · intro b hb
            rcases List.mem_cons.1 hb with rfl | hb
            · exact .inr (Nat.le_refl _)
            · rcases List.mem_append.1 hb with hb | hb
              · exact .inl ⟨k, .inl rfl, hko, by rw [hFk]; simp [hb]⟩
              · obtain ⟨j, hj, hj2, hb'⟩ := hBk b hb
                exact .inl ⟨j, .inr hj, hj2, hb'⟩

/-! Maps. -/
theorem s_appendF (h : StRelAt c st a w I hdr F) {t t' : TypeId} {x y : Operand} {K : Eff → Prop} (ho : o.op = .call { callee := .builtin .append, args := #[x, y], argTypes := #[t, t'] }) (hK : appendOpF P st o.dst t t' (opv st x) (opv st y) K) : Goes P o c st a w K := by
  have hx := rep_opv h x
  have hy := rep_opv h y
  unfold appendOpF at hK
  split at hK
  case h_2 => exact hK.elim
  rename_i d e hd he
  have hu := telem_spec he
  split at hK
  case h_2 => exact hK.elim
  rename_i z sz nn l nm sz' nn' l' nm' hz hs hs'
  obtain ⟨rfl, hok, h0, hzs, hsz, hsz', hp', h1, hne, hby, hbig, hK⟩ := hK
  obtain ⟨i, ds, hi, hds⟩ := tok_spec hok
  unfold tzero at hz
  rw [hi] at hz
  simp only [Option.bind_some] at hz
  have hts := tsize_info hi
  rw [tbytes_info hi] at hby
  -- the ways of the call, each told by the value and the world that it leaves
  have run : ∀ v' w', (Builtin.append_ #[t, t] o.type #[a.eval x, a.eval y]).run P w = .ok v' w' → (execOp a.eval o).run P w = .ok (.value v') w' := by
    intro v' w' hr
    simp [execOp, ho, resolve, invoke, builtin, hr]
  have wsn : ∀ p ∈ used nm ++ used nm', p.2 = none := fun p hp => by
    rcases List.mem_append.1 hp with hp | hp
    · exact used_none nm p hp
    · exact used_none nm' p hp
  -- how it ends: the new node's blocks
  have fin : ∀ (v' : Value) (w' : World) (X B : List Nat), (Builtin.append_ #[t, t] o.type #[a.eval x, a.eval y]).run P w = .ok v' w' → v'.oneCell' = true →
      (∀ b, b ∈ X → (∃ k, nm = some k ∧ st.o k ≠ none ∧ b ∈ F k)) → (∀ b : Nat, b < w.heap.size → b ∉ X → w'.heap[b]? = w.heap[b]?) → w.heap.size ≤ w'.heap.size → w'.os = w.os → w'.tape = w.tape → OutOk w' w →
      Rep w' I (fun _ => none) (.own (tsize P e) (nn && nm.isSome) (l ++ l')) B v' → B.Nodup → (∀ b, b ∈ B → (∃ k, (nm = some k ∨ nm' = some k) ∧ st.o k ≠ none ∧ b ∈ F k) ∨ w.heap.size ≤ b) → Goes P o c st a w K := by
    intro v' w' X B hrun hv1 hX hw hsz ho1 ho2 ho3 hrep hnod hBs
    refine goes_value _ (run _ _ hrun) hK fun hok => ?_
    have hdn := hok.1
    have hdrop := ws_none (used nm ++ used nm') wsn h
    have live : ∀ k, (st.ws (used nm ++ used nm')).o k ≠ none → st.o k ≠ none ∧ nm ≠ some k ∧ nm' ≠ some k := by
      intro k hk
      obtain ⟨h1, h2⟩ := ws_o _ wsn hk
      refine ⟨h1, fun e => ?_, fun e => ?_⟩
      · subst e; exact h2 (k, none) (by simp [used]) rfl
      · subst e; exact h2 (k, none) (by simp [used]) rfl
    have hworld := hdrop.world X (fun b hb hI => by obtain ⟨k, _, hk, hb'⟩ := hX b hb; exact h.oi k hk b hb' hI)
      (fun k hk b hb hbX => by obtain ⟨j, hj, hjo, hb'⟩ := hX b hbX; obtain ⟨h1, h2, _⟩ := live k hk; exact h.dj j k (fun e => h2 (e ▸ hj)) hjo h1 b hb' hb)
      (fun b hb => by obtain ⟨k, _, hk, hb'⟩ := hX b hb; exact h.oo k hk b hb') hw hsz ho1 ho2 ho3
    have h3 := hworld.freeze B
      (fun k hk b hb hbB => by
        obtain ⟨h1, h2, h3⟩ := live k hk
        rcases hBs b hbB with ⟨j, hj, hjo, hb'⟩ | hb'
        · refine h.dj j k (fun e => ?_) hjo h1 b hb' hb
          subst e
          rcases hj with hj | hj
          · exact h2 hj
          · exact h3 hj
        · have := h.F_lt h1 hb; omega)
      (fun b hb => Rep.lt _ _ _ hrep b hb)
      (fun b hb => by
        rcases hBs b hb with ⟨j, hj, hjo, hb'⟩ | hb'
        · exact h.oo j hjo b hb'
        · right; have := h.size; omega)
    have hv3 := rep_nohdr_of_none hdr (Rep.view (fun _ => rfl) _ B v' (fun b => I b ∨ b ∈ B) (fun b hb => .inl hb) (fun b hb => .inr hb) hrep)
    simp only [AM.view] at hv3
    simp only [St.app, hd, St.nws]
    exact ⟨_, hdr, F, h3.put (by simp only [ws_n]; exact hdn d hd) hv3⟩
  -- the cells to be appended
  have hy2 : (a.eval y = nilSlice ∧ l' = []) ∨ ∃ ad m cp us B, a.eval y = .slice (some ad) m cp ∧ m * tsize P e = l'.length ∧ CellsAt w ad us ∧ RepL w I (fun _ => none) l' B us ∧ B.Nodup ∧ (∀ b, b ∈ B → ∃ k, nm' = some k ∧ st.o k ≠ none ∧ b ∈ F k) ∧ (l' = [] → m = 0) := by
    rcases slOf_spec h hs' hy with ⟨e1, e2, _⟩ | ⟨ad, m, cp, us, B, hv, hn, hc, hcs, hr, hm⟩
    · exact .inl ⟨e1, e2⟩
    · refine .inr ⟨ad, m, cp, us, B, hv, ?_, hcs, hr, ?_, ?_, ?_⟩
      · rcases hsz' with rfl | rfl
        · have : m = 0 := by
            rcases Nat.mul_eq_zero.1 hn with h | h
            · exact h
            · omega
          subst this; simp
        · exact hn
      · cases nm' with
        | none => rw [hm.1]; simp
        | some k => exact hm.2.2.2
      · intro b hb
        cases nm' with
        | none => rw [hm.1] at hb; cases hb
        | some k => exact ⟨k, rfl, by rw [hm.2.1]; simp, hm.2.2.1 b hb⟩
      · rintro rfl
        rcases Nat.mul_eq_zero.1 hn with h | h
        · exact h
        · omega
  have hone : ∀ us B, RepL w I (fun _ => none) l' B us → ∀ u ∈ us, u.oneCell' = true := fun us B hr => all_one (hdr := fun _ => none) (fun _ _ h => by cases h) h1 hr
  rcases appOld_spec h hs hx with ⟨rfl, hv, rfl, rfl⟩ | ⟨k, rfl, hok', hhk, hrk⟩
  · -- from nil
    rcases hy2 with ⟨hv', rfl⟩ | ⟨ad, m, cp, us, B, hv', hm, hcs, hr, hBn, hBk, hm0⟩
    · refine fin nilSlice w [] [] ?_ rfl (fun b hb => by cases hb) (fun b _ _ => rfl) (Nat.le_refl _) rfl rfl (by first | exact ⟨rfl, Nat.le_refl _⟩ | exact ⟨rfl, Nat.le_succ _⟩) ?_ List.nodup_nil (fun b hb => by cases hb)
      · rw [hv, hv']; exact run_append_zero hu hi none 0 0 (Nat.le_refl _) none 0
      · simp [Rep]
    · by_cases hm' : m = 0
      · subst hm'
        have hl0 : l' = [] := List.eq_nil_of_length_eq_zero (by rw [← hm]; simp)
        subst hl0
        refine fin nilSlice w [] [] ?_ rfl (fun b hb => by cases hb) (fun b _ _ => rfl) (Nat.le_refl _) rfl rfl (by first | exact ⟨rfl, Nat.le_refl _⟩ | exact ⟨rfl, Nat.le_succ _⟩) ?_ List.nodup_nil (fun b hb => by cases hb)
        · rw [hv, hv']; exact run_append_zero hu hi none 0 0 (Nat.le_refl _) (some ad) cp
        · simp [Rep]
      · have hus := hr.length
        have hdiv : l'.length / tsize P e = m := by rw [← hm, Nat.mul_div_cancel _ h0]
        simp only [List.length_nil, Nat.zero_div, Nat.zero_add, hdiv] at hby hbig
        have hrun := run_append_nil (P := P) w t o.type e i z hu hi hz ad m cp us (by rw [hus, ← hm, hts]) hcs (by omega) (by omega) (by omega)
        have hge := grownCap_ge w m 0 e
        refine fin _ _ [] (w.heap.size :: B) (by rw [hv, hv']; exact hrun) rfl (fun b hb => by cases hb) (fun b hb _ => alloc_old w _ b hb) (by simp) rfl rfl (by first | exact ⟨rfl, Nat.le_refl _⟩ | exact ⟨rfl, Nat.le_succ _⟩) ?_ ?_ ?_
        · simp only [Rep, List.nil_append]
          refine .inr ⟨w.heap.size, m, _, _, e, B, rfl, rfl, .mk0 (alloc_new w _), hm, hge, ?_, ?_⟩
          · simp only [Array.size_append, List.size_toArray, size_zeroCells, hzs, hus, ← hm, ← Nat.add_mul]
            exact Nat.mul_le_mul_right _ (by omega)
          · have : ((us.toArray ++ Builtin.zeroCells z.cells (grownCap w m 0 e - m)).toList.take l'.length) = us := by
              simp only [Array.toList_append]
              rw [← hus]; exact List.take_left
            rw [this]
            exact RepL.frame (fun _ hb => hb) (fun b hb => alloc_old w _ b (h.hIlt b hb)) _ _ _ (fun b hb => alloc_old w _ b (by obtain ⟨k, _, hk, hb'⟩ := hBk b hb; exact h.F_lt hk hb')) hr
        · refine List.nodup_cons.2 ⟨fun hb => ?_, hBn⟩
          obtain ⟨k, _, hk, hb'⟩ := hBk _ hb
          have := h.F_lt hk hb'
          omega
        · intro b hb
          rcases List.mem_cons.1 hb with rfl | hb
          · exact .inr (Nat.le_refl _)
          · obtain ⟨k, hk, hk2, hb'⟩ := hBk b hb
            exact .inl ⟨k, .inr hk, hk2, hb'⟩
  · -- onto a node
    have hko : st.o k ≠ none := by rw [hok']; simp
    have hnn : (nn && (some k).isSome) = nn := by simp
    rw [hnn] at fin
    have hszk : tsize P e = sz := by
      rcases hsz with h | h
      · cases h
      · exact h
    subst hszk
    have hne' : nm' ≠ some k := by
      rcases hne with h | h
      · cases h
      · exact fun e => h e.symm
    simp only [Rep] at hrk
    rcases hrk with ⟨hv, rfl, rfl, hFk⟩ | ⟨g, n, cap, C, ty, B', hv, hFk, hC, hn, hnc, hcC, hr0⟩
    · -- whose header is nil
      rcases hy2 with ⟨hv', rfl⟩ | ⟨ad, m, cp, us, B, hv', hm, hcs, hr, hBn, hBk, hm0⟩
      · refine fin nilSlice w [] [] ?_ rfl (fun b hb => by cases hb) (fun b _ _ => rfl) (Nat.le_refl _) rfl rfl (by first | exact ⟨rfl, Nat.le_refl _⟩ | exact ⟨rfl, Nat.le_succ _⟩) ?_ List.nodup_nil (fun b hb => by cases hb)
        · rw [hv, hv']; exact run_append_zero hu hi none 0 0 (Nat.le_refl _) none 0
        · simp [Rep]
      · by_cases hm' : m = 0
        · subst hm'
          have hl0 : l' = [] := List.eq_nil_of_length_eq_zero (by rw [← hm]; simp)
          subst hl0
          refine fin nilSlice w [] [] ?_ rfl (fun b hb => by cases hb) (fun b _ _ => rfl) (Nat.le_refl _) rfl rfl (by first | exact ⟨rfl, Nat.le_refl _⟩ | exact ⟨rfl, Nat.le_succ _⟩) ?_ List.nodup_nil (fun b hb => by cases hb)
          · rw [hv, hv']; exact run_append_zero hu hi none 0 0 (Nat.le_refl _) (some ad) cp
          · simp [Rep]
        · have hus := hr.length
          have hdiv : l'.length / tsize P e = m := by rw [← hm, Nat.mul_div_cancel _ h0]
          simp only [List.length_nil, Nat.zero_div, Nat.zero_add, hdiv] at hby hbig
          have hrun := run_append_nil (P := P) w t o.type e i z hu hi hz ad m cp us (by rw [hus, ← hm, hts]) hcs (by omega) (by omega) (by omega)
          have hge := grownCap_ge w m 0 e
          refine fin _ _ [] (w.heap.size :: B) (by rw [hv, hv']; exact hrun) rfl (fun b hb => by cases hb) (fun b hb _ => alloc_old w _ b hb) (by simp) rfl rfl (by first | exact ⟨rfl, Nat.le_refl _⟩ | exact ⟨rfl, Nat.le_succ _⟩) ?_ ?_ ?_
          · simp only [Rep, List.nil_append]
            refine .inr ⟨w.heap.size, m, _, _, e, B, rfl, rfl, .mk0 (alloc_new w _), hm, hge, ?_, ?_⟩
            · simp only [Array.size_append, List.size_toArray, size_zeroCells, hzs, hus, ← hm, ← Nat.add_mul]
              exact Nat.mul_le_mul_right _ (by omega)
            · have : ((us.toArray ++ Builtin.zeroCells z.cells (grownCap w m 0 e - m)).toList.take l'.length) = us := by
                simp only [Array.toList_append]
                rw [← hus]; exact List.take_left
              rw [this]
              exact RepL.frame (fun _ hb => hb) (fun b hb => alloc_old w _ b (h.hIlt b hb)) _ _ _ (fun b hb => alloc_old w _ b (by obtain ⟨k, _, hk, hb'⟩ := hBk b hb; exact h.F_lt hk hb')) hr
          · refine List.nodup_cons.2 ⟨fun hb => ?_, hBn⟩
            obtain ⟨k, _, hk, hb'⟩ := hBk _ hb
            have := h.F_lt hk hb'
            omega
          · intro b hb
            rcases List.mem_cons.1 hb with rfl | hb
            · exact .inr (Nat.le_refl _)
            · obtain ⟨k, hk, hk2, hb'⟩ := hBk b hb
              exact .inl ⟨k, .inr hk, hk2, hb'⟩
    · have hndk := h.nd k hko
      rw [hFk] at hndk
      have hgF : g ∈ F k := by rw [hFk]; simp
      have hgI : ¬ I g := h.oi k hko g hgF
      have hl0 := hr0.length
      have hdl : l.length / tsize P e = n := by rw [← hn, Nat.mul_div_cancel _ h0]
      rcases hy2 with ⟨hv', rfl⟩ | ⟨ad, m, cp, us, B, hv', hm, hcs, hr, hBn, hBk, hm0⟩
      · refine fin (a.eval x) w [] (F k) ?_ (by rw [hv]; rfl) (fun b hb => by cases hb) (fun b _ _ => rfl) (Nat.le_refl _) rfl rfl (by first | exact ⟨rfl, Nat.le_refl _⟩ | exact ⟨rfl, Nat.le_succ _⟩) ?_ (h.nd k hko) (fun b hb => .inl ⟨k, .inl rfl, hko, hb⟩)
        · rw [hv, hv']; exact run_append_zero hu hi (some _) n cap hnc none 0
        · simp only [Rep, List.append_nil]
          exact .inr ⟨g, n, cap, C, ty, B', hv, hFk, hC, hn, hnc, hcC, hr0⟩
      · by_cases hm' : m = 0
        · subst hm'
          have hl0' : l' = [] := List.eq_nil_of_length_eq_zero (by rw [← hm]; simp)
          subst hl0'
          refine fin (a.eval x) w [] (F k) ?_ (by rw [hv]; rfl) (fun b hb => by cases hb) (fun b _ _ => rfl) (Nat.le_refl _) rfl rfl (by first | exact ⟨rfl, Nat.le_refl _⟩ | exact ⟨rfl, Nat.le_succ _⟩) ?_ (h.nd k hko) (fun b hb => .inl ⟨k, .inl rfl, hko, hb⟩)
          · rw [hv, hv']; exact run_append_zero hu hi (some _) n cap hnc (some ad) cp
          · simp only [Rep, List.append_nil]
            exact .inr ⟨g, n, cap, C, ty, B', hv, hFk, hC, hn, hnc, hcC, hr0⟩
        have hus := hr.length
        have hdiv : l'.length / tsize P e = m := by rw [← hm, Nat.mul_div_cancel _ h0]
        rw [hdl, hdiv] at hby hbig
        have hlen2 : (n + m) * tsize P e = (l ++ l').length := by rw [List.length_append, Nat.add_mul, hn, hm]
        have hBdis : ∀ b, b ∈ B → b ∉ F k := fun b hb hbk => by
          obtain ⟨j, hj, hj2, hb'⟩ := hBk b hb
          exact h.dj j k (fun e => hne' (e ▸ hj)) hj2 hko b hb' hbk
        have hCl : l.length ≤ C.size := by rw [← hn]; exact Nat.le_trans (Nat.mul_le_mul_right _ hnc) hcC
        by_cases hroom : n + m ≤ cap
        · have hfit : n * i.size + us.length ≤ C.size := by
            rw [hus, ← hts, ← hm, ← Nat.add_mul]
            exact Nat.le_trans (Nat.mul_le_mul_right _ hroom) hcC
          have hrun := run_room (P := P) (w := w) (t := t) (ty' := o.type) hu hi g n cap C hC ad m cp us (by rw [hus, ← hm, hts]) hcs (hone us B hr) hroom hfit
          have hw' : ∀ j, j ≠ g → (w.setRow g (C.toList.take (n * i.size) ++ us ++ C.toList.drop (n * i.size + us.length)).toArray).heap[j]? = w.heap[j]? := fun j hj => setRow_other w g j _ hj
          refine fin _ _ [g] (g :: (B' ++ B)) (by rw [hv, hv']; exact hrun) rfl (fun b hb => ⟨k, rfl, hko, by simp at hb; rw [hb]; exact hgF⟩) (fun b _ hb => hw' b (by simpa using hb)) (by simp) rfl rfl (by first | exact ⟨rfl, Nat.le_refl _⟩ | exact ⟨rfl, Nat.le_succ _⟩) ?_ ?_ ?_
          · simp only [Rep]
            refine .inr ⟨g, n + m, cap, _, ty, B' ++ B, rfl, rfl, hC.put _ (by simp; omega), hlen2, hroom, ?_, ?_⟩
            · simp; omega
            · have e1 : (C.toList.take (n * i.size) ++ us ++ C.toList.drop (n * i.size + us.length)).take (l ++ l').length = C.toList.take l.length ++ us := by
                rw [← hts, hn]
                have : (l ++ l').length = (C.toList.take l.length ++ us).length := by simp [hus]; omega
                rw [this]; exact List.take_left
              simp only [List.toList_toArray]
              rw [e1]
              have hr0' := RepL.frame (w' := w.setRow g (C.toList.take (n * i.size) ++ us ++ C.toList.drop (n * i.size + us.length)).toArray) (I' := I) (fun _ hb => hb) (fun j hj => hw' j (fun e => hgI (e ▸ hj))) _ _ _
                (fun j hj => hw' j (fun e => by subst e; exact (List.nodup_cons.1 hndk).1 hj)) hr0
              have hr' := RepL.frame (w' := w.setRow g (C.toList.take (n * i.size) ++ us ++ C.toList.drop (n * i.size + us.length)).toArray) (I' := I) (fun _ hb => hb) (fun j hj => hw' j (fun e => hgI (e ▸ hj))) _ _ _
                (fun j hj => hw' j (fun e => by subst e; exact hBdis _ hj hgF)) hr
              exact hr0'.append hr'
          · refine List.nodup_cons.2 ⟨fun hb => ?_, List.nodup_append.2 ⟨(List.nodup_cons.1 hndk).2, hBn, fun b hb b' hb' e => ?_⟩⟩
            · rcases List.mem_append.1 hb with hb | hb
              · exact (List.nodup_cons.1 hndk).1 hb
              · exact hBdis _ hb hgF
            · subst e; exact hBdis b hb' (by rw [hFk]; simp [hb])
          · intro b hb
            rcases List.mem_cons.1 hb with rfl | hb
            · exact .inl ⟨k, .inl rfl, hko, hgF⟩
            · rcases List.mem_append.1 hb with hb | hb
              · exact .inl ⟨k, .inl rfl, hko, by rw [hFk]; simp [hb]⟩
              · obtain ⟨j, hj, hj2, hb'⟩ := hBk b hb
                exact .inl ⟨j, .inr hj, hj2, hb'⟩
        · have holds : ∀ j u, (C.toList.take l.length)[j]? = some u → w.cell? ((⟨g, 0, none⟩ : Addr).add j) = some u := cellsAt_take hC l.length
          have hol : (C.toList.take l.length).length = n * i.size := by rw [hl0, ← hn, hts]
          have hrun := run_append_grow (P := P) w t o.type e i z hu hi hz ⟨g, 0, none⟩ n cap (C.toList.take l.length) hol holds ad m cp us (by rw [hus, ← hm, hts]) hcs (by omega) (by omega) (growslice_fits (by omega) hby)
          have hge := grownCap_ge w (n + m) cap e
          refine fin _ _ [] (w.heap.size :: (B' ++ B)) (by rw [hv, hv']; exact hrun) rfl (fun b hb => by cases hb) (fun b hb _ => alloc_old w _ b hb) (by simp) rfl rfl (by first | exact ⟨rfl, Nat.le_refl _⟩ | exact ⟨rfl, Nat.le_succ _⟩) ?_ ?_ ?_
          · simp only [Rep]
            refine .inr ⟨w.heap.size, n + m, _, _, e, B' ++ B, rfl, rfl, .mk0 (alloc_new w _), hlen2, hge, ?_, ?_⟩
            · rw [Array.size_append, Array.size_append, size_zeroCells, hzs, List.size_toArray, List.size_toArray, hl0, hus, ← hm, ← hn, ← Nat.add_mul, ← Nat.add_mul]
              exact Nat.mul_le_mul_right _ (by omega)
            · have e1 : (((C.toList.take l.length).toArray ++ us.toArray ++ Builtin.zeroCells z.cells (grownCap w (n + m) cap e - (n + m))).toList.take (l ++ l').length) = C.toList.take l.length ++ us := by
                simp only [Array.toList_append]
                have : (l ++ l').length = (C.toList.take l.length ++ us).length := by simp [hus]; omega
                rw [this]; exact List.take_left
              rw [e1]
              have hr0' := RepL.frame (I' := I) (fun _ hb => hb) (fun j hj => alloc_old w (.cells ((C.toList.take l.length).toArray ++ us.toArray ++ Builtin.zeroCells z.cells (grownCap w (n + m) cap e - (n + m))) e) j (h.hIlt j hj)) _ _ _
                (fun j hj => alloc_old w _ j (h.F_lt hko (by rw [hFk]; simp [hj]))) hr0
              have hr' := RepL.frame (I' := I) (fun _ hb => hb) (fun j hj => alloc_old w (.cells ((C.toList.take l.length).toArray ++ us.toArray ++ Builtin.zeroCells z.cells (grownCap w (n + m) cap e - (n + m))) e) j (h.hIlt j hj)) _ _ _
                (fun j hj => alloc_old w _ j (by obtain ⟨k, _, hk, hb'⟩ := hBk j hj; exact h.F_lt hk hb')) hr
              exact hr0'.append hr'
          · refine List.nodup_cons.2 ⟨fun hb => ?_, List.nodup_append.2 ⟨(List.nodup_cons.1 hndk).2, hBn, fun b hb b' hb' e => ?_⟩⟩
            · rcases List.mem_append.1 hb with hb | hb
              · have := h.F_lt hko (show w.heap.size ∈ F k by rw [hFk]; simp [hb]); omega
              · obtain ⟨j, hj, hj2, hb'⟩ := hBk _ hb
                have := h.F_lt hj2 hb'; omega
            · subst e; exact hBdis b hb' (by rw [hFk]; simp [hb])
          · intro b hb
            rcases List.mem_cons.1 hb with rfl | hb
            · exact .inr (Nat.le_refl _)
            · rcases List.mem_append.1 hb with hb | hb
              · exact .inl ⟨k, .inl rfl, hko, by rw [hFk]; simp [hb]⟩
              · obtain ⟨j, hj, hj2, hb'⟩ := hBk b hb
                exact .inl ⟨j, .inr hj, hj2, hb'⟩

/-! Maps. -/
theorem mem_put' {α : Type} {l : List α} {k : Nat} {z y : α} (h : y ∈ l.take k ++ List.replicate (l.length - k) z) : y ∈ l ∨ y = z := by
  rcases List.mem_append.1 h with h | h
  · exact .inl (List.mem_of_mem_take h)
  · exact .inr (List.eq_of_mem_replicate h)
theorem repL_vals {w : World} {I : Nat → Prop} {hdr : Nat → Option Value} : ∀ {l : List AV} {B : List Nat} {vs : List Value}, (∀ y, y ∈ l → ∃ v, y = .val v) → RepL w I hdr l B vs → B = [] ∧ l = vs.map .val
  | [], B, vs, _, h => by simp only [RepL] at h; exact ⟨h.1, by rw [h.2]; rfl⟩
  | y :: l, B, vs, hl, h => by
    obtain ⟨v, rfl⟩ := hl y (by simp)
    simp only [RepL, Rep] at h
    obtain ⟨B₁, B₂, u, vs', rfl, rfl, ⟨rfl, rfl⟩, h2⟩ := h
    obtain ⟨rfl, rfl⟩ := repL_vals (fun z hz => hl z (by simp [hz])) h2
    exact ⟨rfl, rfl⟩
theorem vals_repL {w : World} {I : Nat → Prop} {hdr : Nat → Option Value} : ∀ (vs : List Value), RepL w I hdr (vs.map .val) [] vs
  | [] => by simp [RepL]
  | v :: vs => by
    simp only [List.map_cons, RepL, Rep]
    exact ⟨[], [], v, vs, rfl, rfl, ⟨rfl, rfl⟩, vals_repL vs⟩
theorem setCell_at {w : World} {b o : Nat} {C : Array Value} {ty : TypeId} {f : Nat × Nat} (hC : w.heap[b]? = some (.cells C ty f)) (v : Value) :
    (w.setCell ⟨b, o, none⟩ v).heap[b]? = some (.cells (C.setIfInBounds o v) ty f) ∧ (∀ k, k ≠ b → (w.setCell ⟨b, o, none⟩ v).heap[k]? = w.heap[k]?) ∧ (w.setCell ⟨b, o, none⟩ v).heap.size = w.heap.size := by
  refine ⟨?_, fun k hk => ?_, ?_⟩
  · show (w.heap.modify b _)[b]? = _
    rw [Array.getElem?_modify, hC]
    simp
  · unfold World.setCell
    simp only [Array.getElem?_modify]
    rw [if_neg (fun e => hk e.symm)]
  · unfold World.setCell
    simp
theorem setCells_spec (b : Nat) (ty : TypeId) (f : Nat × Nat) : ∀ (vs : List Value) (o : Nat) (w : World) (C : Array Value), w.heap[b]? = some (.cells C ty f) → o + vs.length ≤ C.size →
    (∃ C' : Array Value, (w.setCells b o vs).heap[b]? = some (.cells C' ty f) ∧ C'.toList = C.toList.take o ++ vs ++ C.toList.drop (o + vs.length)) ∧ (∀ k, k ≠ b → (w.setCells b o vs).heap[k]? = w.heap[k]?) ∧ (w.setCells b o vs).heap.size = w.heap.size ∧
      (w.setCells b o vs).os = w.os ∧ (w.setCells b o vs).tape = w.tape ∧ OutOk (w.setCells b o vs) w
  | [], o, w, C, hC, _ => ⟨⟨C, hC, by simp⟩, fun _ _ => rfl, rfl, rfl, rfl, .refl w⟩
  | v :: vs, o, w, C, hC, hle => by
    simp only [List.length_cons] at hle
    obtain ⟨s1, s2, s3⟩ := setCell_at (o := o) hC v
    obtain ⟨⟨C', c1, c2⟩, d1, d2, d3, d4, d5⟩ := setCells_spec b ty f vs (o + 1) (w.setCell ⟨b, o, none⟩ v) _ s1 (by simp; omega)
    refine ⟨⟨C', c1, ?_⟩, fun k hk => (d1 k hk).trans (s2 k hk), d2.trans s3, d3, d4, d5⟩
    rw [c2, Array.toList_setIfInBounds]
    have hol : o < C.toList.length := by simp; omega
    rw [List.take_succ_eq_append_getElem (by simpa using hol), List.take_set_of_le (by omega), List.getElem_set_self, List.drop_set_of_lt (by omega)]
    simp only [List.length_cons, List.append_assoc, List.singleton_append]
    rw [show o + 1 + vs.length = o + (vs.length + 1) by omega]
theorem addr_add (b i : Nat) : (⟨b, 0, none⟩ : Addr).add i = ⟨b, i, none⟩ := by
  unfold Addr.add
  split
  · rename_i h; subst h; rfl
  · simp
theorem repL_nob {w : World} {I : Nat → Prop} {hdr : Nat → Option Value} : ∀ {l : List AV} {B : List Nat} {vs : List Value}, l.all nob = true → RepL w I hdr l B vs → B = []
  | [], B, vs, _, h => by simp only [RepL] at h; exact h.1
  | y :: l, B, vs, hl, h => by
    simp only [List.all_cons, Bool.and_eq_true] at hl
    simp only [RepL] at h
    obtain ⟨B₁, B₂, u, vs', rfl, rfl, h1, h2⟩ := h
    have e2 := repL_nob hl.2 h2
    have e1 : B₁ = [] := by
      cases y <;> simp [nob] at hl <;> simp only [Rep] at h1 <;> exact h1.1
    rw [e1, e2]; rfl
theorem repL_take0 {w : World} {I : Nat → Prop} {hdr : Nat → Option Value} : ∀ (i : Nat) {l : List AV} {vs : List Value}, RepL w I hdr l [] vs → RepL w I hdr (l.take i) [] (vs.take i)
  | 0, l, vs, _ => by simp [RepL]
  | i + 1, [], vs, h => by simp only [RepL] at h; simp [h.2, RepL]
  | i + 1, y :: l, vs, h => by
    simp only [RepL] at h
    obtain ⟨B₁, B₂, u, vs', e, rfl, h1, h2⟩ := h
    obtain ⟨rfl, rfl⟩ : B₁ = [] ∧ B₂ = [] := by simpa using e.symm
    simp only [List.take_succ_cons, RepL]
    exact ⟨[], [], u, _, rfl, rfl, h1, repL_take0 i h2⟩
theorem repL_app0 {w : World} {I : Nat → Prop} {hdr : Nat → Option Value} : ∀ {l m : List AV} {vs us : List Value}, RepL w I hdr l [] vs → RepL w I hdr m [] us → RepL w I hdr (l ++ m) [] (vs ++ us)
  | [], m, vs, us, h, h' => by simp only [RepL] at h; rw [h.2]; exact h'
  | y :: l, m, vs, us, h, h' => by
    simp only [RepL] at h
    obtain ⟨B₁, B₂, u, vs', e, rfl, h1, h2⟩ := h
    obtain ⟨rfl, rfl⟩ : B₁ = [] ∧ B₂ = [] := by simpa using e.symm
    simp only [List.cons_append, RepL]
    exact ⟨[], [], u, _, rfl, rfl, h1, repL_app0 h2 h'⟩
theorem repL_zeros {w : World} {I : Nat → Prop} {hdr : Nat → Option Value} (z : Value) : ∀ (n : Nat), RepL w I hdr (List.replicate n (.val z)) [] (List.replicate n z)
  | 0 => by simp [RepL]
  | n + 1 => by
    simp only [List.replicate_succ, RepL, Rep]
    exact ⟨[], [], z, _, rfl, rfl, ⟨rfl, rfl⟩, repL_zeros z n⟩
theorem s_clear1 (h : StRelAt c st a w I hdr F) {x : Operand} {t : TypeId} {K : Eff → Prop} (ho : o.op = .call { callee := .builtin .clear, args := #[x], argTypes := #[t] }) {nm i : Nat} {e : TypeId} (hs : opv st x = .sfx nm i) (he : telem P t = some e)
    {nn : Bool} {l : List AV} {z : Value} (hno : st.o nm = some (.own 1 nn l)) (hz : tzero P e = some z) (hz1 : z.cells = #[z]) (hz2 : z.oneCell' = true) (hvals : l.all nob = true)
    (hK : K { val := .tup [], ws := [(nm, some (.own 1 nn (l.take i ++ List.replicate (l.length - i) (.val z))))], rd := true }) : Goes P o c st a w K := by
  have hx := rep_opv h x
  have hu := telem_spec he
  rw [hs] at hx
  simp only [Rep] at hx
  obtain ⟨_, ad, n, cp, hh, hin, hnc, hv⟩ := hx
  obtain ⟨u, hu', hr⟩ := h.ob nm _ hno
  rw [hh] at hu'
  cases hu'
  simp only [Rep] at hr
  rcases hr with ⟨hbad, _⟩ | ⟨b, n', cp', C, ty, B', hv', hF, hC, hns, hnc', hcC, hr⟩
  · cases hbad
  simp only [Value.slice.injEq, Option.some.injEq] at hv'
  obtain ⟨rfl, rfl, rfl⟩ := hv'
  obtain rfl := repL_nob hvals hr
  rw [Nat.mul_one] at hns hcC
  have hRow := hC
  obtain ⟨zf, hC, hzf⟩ := hC
  rw [addr_add] at hv
  have hzv : ∀ w, (zeroValue e).run P w = .ok z w := fun w => by
    unfold tzero at hz
    cases hi : P.info? e with
    | none => rw [hi] at hz; cases hz
    | some ie =>
      rw [hi] at hz
      simp only [Option.bind_some] at hz
      simp [zeroValue, typeInfo, hi, hz]
  have hcell : ∀ j, j < n - i → w.cell? ⟨b, i + j, none⟩ = C[i + j]? := fun j _ => by
    unfold World.cell?
    simp [hC]
  have hrun := Lib.run_clear_slice (P := P) w t e o.type z hu hzv hz1 hz2 b i (n - i) (cp - i) (by omega) (fun j hj => by rw [hcell j hj, Array.getElem?_eq_getElem (by omega)]; rfl) (fun j hj => hRow.frozen (by omega))
  have hexec : (execOp a.eval o).run P w = .ok (.value (.tuple #[])) (w.setCells b i (List.replicate (n - i) z)) := by
    simp [execOp, ho, resolve, hv, invoke, builtin, hrun]
  obtain ⟨⟨C', c1, c2⟩, d1, d2, d3, d4, d5⟩ := setCells_spec b ty zf (List.replicate (n - i) z) i w C hC (by simp; omega)
  have hne : st.o nm ≠ none := by rw [hno]; simp
  have hbI : ¬ I b := h.oi nm hne b (by rw [hF]; simp)
  refine goes_value _ hexec hK fun hok => ?_
  have hCl : n ≤ C.toList.length := by simp; omega
  have hvs : (C.toList.take l.length).length = n := by rw [List.length_take]; omega
  have htk : C'.toList.take l.length = C.toList.take i ++ List.replicate (n - i) z := by
    rw [c2, List.take_append_of_le_length (by simp; omega), List.take_of_length_le (by simp; omega)]
  have hrl : RepL w I (fun _ => none) (l.take i ++ List.replicate (l.length - i) (.val z)) [] (C'.toList.take l.length) := by
    rw [htk, ← hns]
    refine repL_app0 ?_ (repL_zeros z _)
    have := repL_take0 i hr
    rwa [List.take_take, Nat.min_eq_left (by omega)] at this
  have hsz' : C'.size = C.size := by
    have : C'.toList.length = C.toList.length := by
      rw [c2]; simp; omega
    simpa using this
  have hlen : (l.take i ++ List.replicate (l.length - i) (AV.val z)).length = l.length := by simp; omega
  have h2 := h.turn (x' := .own 1 nn (l.take i ++ List.replicate (l.length - i) (.val z))) (B' := [b]) hno hh (by
      simp only [Rep]
      refine .inr ⟨b, n, cp, C', ty, [], rfl, rfl, ⟨zf, c1, by rw [hsz']; exact hzf⟩, by rw [hlen, Nat.mul_one]; exact hns, hnc, by rw [Nat.mul_one, hsz']; exact hcC, ?_⟩
      rw [hlen]
      exact RepL.frame (fun _ hb => hb) (fun k hk => d1 k (fun e => hbI (e ▸ hk))) _ _ _ (fun k hk => by cases hk) hrl) (fun b' _ hF' => d1 b' (fun e => hF' (by rw [hF, e]; simp))) (by rw [d2]; exact Nat.le_refl _) d3 d4 d5 (by simp) (fun k hk => .inl (by rw [hF]; exact hk))
  simp only [St.app, St.ws, St.nws]
  cases hdst : o.dst with
  | none => exact ⟨I, hdr, _, h2⟩
  | some d => exact ⟨I, hdr, _, h2.put (hok.1 d hdst) (by simp only [Rep, RepL]; exact ⟨#[], rfl, trivial, rfl⟩)⟩
theorem s_clear (h : StRelAt c st a w I hdr F) {x : Operand} {t : TypeId} {K : Eff → Prop} (ho : o.op = .call { callee := .builtin .clear, args := #[x], argTypes := #[t] }) (hK : clearOp P st t (opv st x) K) : Goes P o c st a w K := by
  unfold clearOp at hK
  split at hK
  case h_2 => exact hK.elim
  rename_i nm i e hs he
  split at hK
  case h_3 => exact hK.elim
  · rename_i nn l k z hno hz
    exact s_clear1 h ho hs he hno hz rfl rfl hK.1 hK.2
  · rename_i nn l hno hz
    exact s_clear1 h ho hs he hno hz rfl rfl hK.1 hK.2

theorem isV_one : ∀ {l : List AV}, l.all isV = true → ∃ vs : List Value, l = vs.map AV.val ∧ ∀ v ∈ vs, v.oneCell' = true
  | [], _ => ⟨[], rfl, fun v hv => by cases hv⟩
  | y :: l, h => by
    simp only [List.all_cons, Bool.and_eq_true] at h
    obtain ⟨vs, rfl, hv⟩ := isV_one h.2
    cases y with
    | val u => exact ⟨u :: vs, rfl, fun v hm => by rcases List.mem_cons.1 hm with rfl | hm; exact h.1; exact hv v hm⟩
    | _ => simp [isV] at h
theorem repL_isv {w : World} {I : Nat → Prop} {hdr : Nat → Option Value} : ∀ {vs : List Value} {B : List Nat} {us : List Value}, RepL w I hdr (vs.map AV.val) B us ↔ B = [] ∧ us = vs
  | [], B, us => by simp [RepL]
  | v :: vs, B, us => by
    simp only [List.map_cons, RepL, Rep]
    constructor
    · rintro ⟨B₁, B₂, u, vs', rfl, rfl, ⟨rfl, rfl⟩, h2⟩
      obtain ⟨rfl, rfl⟩ := repL_isv.1 h2
      exact ⟨rfl, rfl⟩
    · rintro ⟨rfl, rfl⟩
      exact ⟨[], [], v, vs, rfl, rfl, ⟨rfl, rfl⟩, repL_isv.2 ⟨rfl, rfl⟩⟩
theorem s_copyG (h : StRelAt c st a w I hdr F) {x y : Operand} {t t' : TypeId} {K : Eff → Prop} (ho : o.op = .call { callee := .builtin .copy, args := #[x, y], argTypes := #[t, t'] }) {nm i : Nat} {e : TypeId} (he : telem P t = some e)
    (hok : tok P e = true) (hsz : tsize P e = 1) {nn : Bool} {vs : List Value} (hno : st.o nm = some (.own 1 nn (vs.map AV.val))) {b n cp : Nat} (hh : hdr nm = some (.slice (some ⟨b, 0, none⟩) n cp)) (hi : i ≤ n) {dc : Nat}
    (hxv : a.eval x = .slice (some ⟨b, i, none⟩) (n - i) dc) {ad : Addr} {sLen sCap : Nat} (hyv : a.eval y = .slice (some ad) sLen sCap) (cs : List Value) (hcs : cs.length = min sLen (n - i))
    (hsrc : ∀ C ty, Row w b C ty → C.toList.take n = vs → n ≤ C.size → ∀ j v, cs[j]? = some v → w.cell? (ad.add j) = some v) (h1 : ∀ v ∈ cs, v.oneCell' = true)
    (hK : K { val := .val (.int .i64 (cs.length : Nat)), ws := [(nm, some (.own 1 nn ((vs.take i ++ cs ++ vs.drop (i + cs.length)).map AV.val)))], rd := true }) : Goes P o c st a w K := by
  have hu := telem_spec he
  obtain ⟨ie, de, hie, hde⟩ := tok_spec hok
  have hs1 : (P.info? e).map (·.size) = some 1 := by
    rw [tsize_info hie] at hsz
    rw [hie, Option.map_some, hsz]
  obtain ⟨u, hu', hr⟩ := h.ob nm _ hno
  rw [hh] at hu'
  cases hu'
  simp only [Rep] at hr
  rcases hr with ⟨hbad, _⟩ | ⟨b', n', cp', C, ty, B', hv', hF, hC, hns, hnc', hcC, hr⟩
  · cases hbad
  simp only [Value.slice.injEq, Option.some.injEq, Addr.mk.injEq, and_true] at hv'
  obtain ⟨rfl, rfl, rfl⟩ := hv'
  obtain ⟨rfl, hvs⟩ := repL_isv.1 hr
  rw [Nat.mul_one] at hns hcC
  rw [← hns] at hvs
  have hRow := hC
  have hsrc' := hsrc C ty hC hvs (by omega)
  obtain ⟨zf, hC, hzf⟩ := hC
  have hvl : vs.length = n := by simpa using hns.symm
  have hin : i + cs.length ≤ n := by omega
  have hcell : ∀ j, j < cs.length → w.cell? ⟨b, i + j, none⟩ = C[i + j]? := fun j _ => by
    unfold World.cell?
    simp [hC]
  have hrun := run_copy_cells (P := P) w t t' o.type e b i (n - i) dc ad sLen sCap cs hu hs1 hcs hsrc' (fun j hj => by rw [hcell j hj, Array.getElem?_eq_getElem (by omega)]; rfl) (fun j hj => hRow.frozen (by omega)) h1
  have hexec : (execOp a.eval o).run P w = .ok (.value (.int .i64 (cs.length : Nat))) (w.setCells b i cs) := by
    simp [execOp, ho, resolve, hxv, hyv, invoke, builtin, hrun, goInt]
  obtain ⟨⟨C', c1, c2⟩, d1, d2, d3, d4, d5⟩ := setCells_spec b ty zf cs i w C hC (by omega)
  have hne : st.o nm ≠ none := by rw [hno]; simp
  have hbI : ¬ I b := h.oi nm hne b (by rw [hF]; simp)
  refine goes_value _ hexec hK fun hok => ?_
  have hCl : n ≤ C.toList.length := by simp; omega
  have hsz' : C'.size = C.size := by
    have : C'.toList.length = C.toList.length := by
      rw [c2]; simp; omega
    simpa using this
  have hlen : (vs.take i ++ cs ++ vs.drop (i + cs.length)).length = n := by simp; omega
  have htk : C'.toList.take n = vs.take i ++ cs ++ vs.drop (i + cs.length) := by
    have e1 : C.toList = vs ++ C.toList.drop n := by rw [← hvs, List.take_append_drop]
    rw [c2, e1]
    rw [List.take_append_of_le_length (l₁ := vs) (by omega), List.drop_append_of_le_length (by omega), ← List.append_assoc]
    rw [List.take_append_of_le_length (by simp; omega), List.take_of_length_le (by simp; omega)]
  have h2 := h.turn (x' := .own 1 nn ((vs.take i ++ cs ++ vs.drop (i + cs.length)).map AV.val)) (B' := [b]) hno hh (by
      simp only [Rep]
      refine .inr ⟨b, n, cp, C', ty, [], rfl, rfl, ⟨zf, c1, by rw [hsz']; exact hzf⟩, by rw [List.length_map, hlen, Nat.mul_one], hnc', by rw [Nat.mul_one, hsz']; exact hcC, ?_⟩
      rw [List.length_map, hlen, htk]
      exact repL_isv.2 ⟨rfl, rfl⟩) (fun b' _ hF' => d1 b' (fun e => hF' (by rw [hF, e]; simp))) (by rw [d2]; exact Nat.le_refl _) d3 d4 d5 (by simp) (fun k hk => .inl (by rw [hF]; exact hk))
  simp only [St.app, St.ws, St.nws]
  cases hdst : o.dst with
  | none => exact ⟨I, hdr, _, h2⟩
  | some d => exact ⟨I, hdr, _, h2.put (hok.1 d hdst) (by simp [Rep])⟩
theorem s_copy (h : StRelAt c st a w I hdr F) {x y : Operand} {t t' : TypeId} {K : Eff → Prop} (ho : o.op = .call { callee := .builtin .copy, args := #[x, y], argTypes := #[t, t'] }) (hK : copyOp P st t (opv st x) (opv st y) K) : Goes P o c st a w K := by
  have hx := rep_opv h x
  have hy := rep_opv h y
  unfold copyOp at hK
  split at hK
  case h_3 => exact hK.elim
  · rename_i nm i nm' k e hs hs' he
    split at hK
    case h_2 => exact hK.elim
    rename_i nn l hno
    obtain ⟨rfl, hok, hsz, hl, hK⟩ := hK
    obtain ⟨vs, rfl, hv1⟩ := isV_one hl
    rw [hs] at hx
    rw [hs'] at hy
    simp only [Rep] at hx hy
    obtain ⟨_, ad, n, cp, hh, hin, hnc, hxv⟩ := hx
    obtain ⟨_, ad', n', cp', hh', hin', hnc', hyv⟩ := hy
    rw [hh] at hh'
    simp only [Option.some.injEq, Value.slice.injEq] at hh'
    obtain ⟨rfl, rfl, rfl⟩ := hh'
    obtain ⟨u, hu', hr⟩ := h.ob nm _ hno
    rw [hh] at hu'
    cases hu'
    simp only [Rep] at hr
    rcases hr with ⟨hbad, _⟩ | ⟨b, n', cp', C, ty, B', hv', hF, hC, hns, hnc', hcC, hr⟩
    · cases hbad
    simp only [Value.slice.injEq, Option.some.injEq] at hv'
    obtain ⟨rfl, rfl, rfl⟩ := hv'
    rw [addr_add] at hxv
    have hvl : vs.length = n := by simpa using hns.symm
    have hml : (vs.take (min k (n - i))).length = min k (n - i) := by simp; omega
    refine s_copyG h ho he hok hsz hno hh (Nat.le_of_lt hin) hxv hyv (vs.take (min k (n - i))) hml (fun C ty hR hC hle j v hj => ?_) (fun v hv => hv1 v (List.mem_of_mem_take hv)) ?_
    · obtain ⟨zf, hC0, hzf⟩ := hR
      rw [addr_add]
      unfold World.cell?
      simp only [hC0]
      rw [List.getElem?_take] at hj
      split at hj
      · rename_i hjm
        rw [← hC, List.getElem?_take, if_pos (by omega)] at hj
        simpa using hj
      · cases hj
    · rw [hml]
      simpa [hvl] using hK
  · rename_i nm nn' l' e hs hs' he
    split at hK
    case h_2 => exact hK.elim
    rename_i l hno
    obtain ⟨hok, hsz, hl, hl', hpos, hK⟩ := hK
    obtain ⟨vs, rfl, hv1⟩ := isV_one hl
    obtain ⟨us, rfl, hu1⟩ := isV_one hl'
    rw [hs] at hx
    rw [hs'] at hy
    simp only [Rep] at hx hy
    obtain ⟨u, hu', hr⟩ := h.ob nm _ hno
    have hh := hu'
    rw [hx.2] at hu'
    cases hu'
    simp only [Rep] at hr
    rcases hr with ⟨_, _, hbad, _⟩ | ⟨b, n, cp, C, ty, B', hv', hF, hC, hns, hnc', hcC, hr⟩
    · cases hbad
    rw [hv'] at hh
    rcases hy.2 with ⟨_, hbad, _⟩ | ⟨ad, m, mc, us', hyv, hm, _, _, hcells, hrl⟩
    · rw [hbad] at hpos; simp at hpos
    obtain ⟨_, rfl⟩ := repL_isv.1 hrl
    have hvl : vs.length = n := by simpa using hns.symm
    have hul : us'.length = m := by simpa using hm.symm
    have hml : (us'.take (min m n)).length = min m (n - 0) := by simp; omega
    refine s_copyG (i := 0) (dc := cp) h ho he hok hsz hno hh (Nat.zero_le _) (by rw [hv']; rfl) hyv (us'.take (min m n)) hml (fun C ty hR hC hle j v hj => ?_) (fun v hv => hu1 v (List.mem_of_mem_take hv)) ?_
    · rw [List.getElem?_take] at hj
      split at hj
      · exact hcells j v hj
      · cases hj
    · rw [hml]
      simpa [hvl, hul] using hK

theorem s_slicePfx (h : StRelAt c st a w I hdr F) {t : TypeId} {x : Operand} {lo hi : Option Operand} {K : Eff → Prop} (ho : o.op = .slice t x lo hi none) (hK : slicePfx P st t (opv st x) (lo.map (opv st)) (hi.map (opv st)) K) : Goes P o c st a w K := by
  unfold slicePfx at hK
  split at hK
  case h_2 => exact hK.elim
  rename_i nm kj j hxe hlo hhi
  have hx := rep_opv h x
  rw [hxe] at hx
  split at hK
  case h_2 => exact hK.elim
  rename_i l e hno he
  obtain ⟨hok, hsz1, hj0, hj1, hK⟩ := hK
  have hu := telem_spec he
  obtain ⟨ie, de, hie, hde⟩ := tok_spec hok
  have elo : lo = none := by cases lo with | none => rfl | some q => simp at hlo
  subst elo
  obtain ⟨q, rfl, hq⟩ : ∃ q, hi = some q ∧ a.eval q = .int kj j := by
    cases hi with
    | none => simp at hhi
    | some q =>
      simp only [Option.map_some, Option.some.injEq] at hhi
      have := rep_opv h q
      rw [hhi] at this
      exact ⟨q, rfl, rep_val this⟩
  simp only [Rep] at hx
  obtain ⟨v', hv', hr⟩ := h.ob nm _ hno
  rw [hx.2] at hv'
  cases hv'
  simp only [Rep] at hr
  rcases hr with ⟨_, _, hbad, _⟩ | ⟨b, n, cp, C, ty, B', hv, hF, hC, hns, hnc, hcC, hr⟩
  · cases hbad
  rw [Nat.mul_one] at hns
  have e2 := run_sliceBound (P := P) w kj j cp .sliceAcap hj0 (by omega)
  have run : (execOp a.eval o).run P w = .ok (.value (.slice (some ⟨b, 0, none⟩) j.toNat cp)) w := by
    simp [execOp, ho, hv, hq, Instr.sliceAt, Instr.slice, run_underlying hu, Instr.sliceBounds, e2, run_sizeOf' hie, hsz1, addr_add]
  refine goes_pure h _ rfl rfl run (Same.refl w) hK ?_
  simp only [Rep]
  exact ⟨trivial, _, n, cp, by rw [hx.2, hv], by omega, hnc, rfl⟩

theorem run_setMap {r : Nat} {es : Array MapEntry} {clock : Nat} (o : Obj) (hb : w.heap[r]? = some (.map es clock)) : (setObj r o).run P w = .ok () { w with heap := w.heap.setIfInBounds r o } := by
  simp [setObj, Sem.run, hb]
theorem run_plainKey {kt : TypeId} {d : TypeDesc} {k : Value} (hd : P.underlying kt = some d) (hk : plainKey d = true) (e : Bool) (n : Nat) : (Instr.checkKey e (n + 1) kt k).run P w = .ok () w := by
  unfold Instr.checkKey
  simp only [Sem.run_bind, run_underlying hd, Result.andThen]
  cases d <;> cases k <;> simp_all [plainKey]
theorem run_findMap {kt : TypeId} {d : TypeDesc} {k : Value} {l : List MapEntry} {r : Option (Nat × Value)} (hd : P.underlying kt = some d) (h : Instr.findNow d k l 0 = some r) : (Instr.findKey kt k l).run P w = .ok r w := by
  simp [Instr.findKey, run_underlying hd, Result.andThen, h]
theorem findNow_rep {d : TypeDesc} {key : Value} : ∀ {es : List (Value × AV)} {B : List Nat} {ents : List MapEntry} {r : Option AV} (i : Nat), RepM w I es B ents → mpFind d key es = some r →
    match r with
    | none => Instr.findNow d key ents i = some none
    | some x => ∃ j v Bx, Instr.findNow d key ents i = some (some (j, v)) ∧ Rep w I (fun _ => none) x Bx v
  | [], B, ents, r, i, h, hf => by
    simp only [RepM] at h
    obtain ⟨_, rfl⟩ := h
    simp only [mpFind, Option.some.injEq] at hf
    subst hf
    simp [Instr.findNow]
  | (k, x) :: es, B, ents, r, i, h, hf => by
    simp only [RepM] at h
    obtain ⟨B₁, B₂, v, vs', rfl, rfl, hk, h1, h2⟩ := h
    simp only [mpFind] at hf
    split at hf
    · rename_i hs
      cases hf
      exact ⟨i, v.val, B₁, by simp [Instr.findNow, hk, hs], h1⟩
    · rename_i hs
      have := findNow_rep (i + 1) h2 hf
      cases r with
      | none => simpa [Instr.findNow, hk, hs] using this
      | some y => simpa [Instr.findNow, hk, hs] using this
    · cases hf
theorem sameNow_bits {d : TypeDesc} {a b : Value} (h : Instr.sameNow d a b = some true) (n : Nat) : Instr.sameBits n b a = true := by
  unfold Instr.sameNow at h
  split at h
  · split at h
    · rename_i e; subst e
      simp at h; subst h
      simp [Instr.sameBits]
    · cases h
  · rename_i a b
    simp only [Option.some.injEq] at h
    have e : a.data = b.data := eq_of_beq (show (a.data == b.data) = true from h)
    simp only [Instr.sameBits]
    show (b.data == a.data) = true
    rw [e]; exact beq_self_eq_true _
  · simp at h; subst h; simp [Instr.sameBits]
  · cases h
theorem mpPut_rep {d : TypeDesc} {key v : Value} {x : AV} (hx : Rep w I (fun _ => none) x [] v) : ∀ {es es' : List (Value × AV)} {B : List Nat} {ents : List MapEntry}, RepM w I es B ents → mpPut d key x es = some es' →
    ((∀ i, Instr.findNow d key ents i = some none) ∧ ∀ born, RepM w I es' B (ents ++ [{ key, val := v, born }])) ∨
    ∃ j e0 B', ents[j]? = some e0 ∧ (∀ i, Instr.findNow d key ents i = some (some (i + j, e0.val))) ∧ Instr.sameNow d key e0.key = some true ∧ RepM w I es' B' (ents.modify j fun e => { e with key, val := v }) ∧ B'.Sublist B
  | [], es', B, ents, h, hp => by
    simp only [RepM] at h
    obtain ⟨rfl, rfl⟩ := h
    simp only [mpPut, Option.some.injEq] at hp
    subst hp
    refine .inl ⟨fun i => by simp [Instr.findNow], fun born => ?_⟩
    simp only [RepM, List.nil_append]
    exact ⟨[], [], _, [], rfl, rfl, rfl, hx, rfl, rfl⟩
  | (k, y) :: es, es', B, ents, h, hp => by
    simp only [RepM] at h
    obtain ⟨B₁, B₂, u, vs', rfl, rfl, hk, h1, h2⟩ := h
    simp only [mpPut] at hp
    split at hp
    · rename_i hs
      cases hp
      refine .inr ⟨0, u, B₂, rfl, fun i => by simp [Instr.findNow, hk, hs], by rw [hk]; exact hs, ?_, List.sublist_append_right _ _⟩
      simp only [List.modify_zero_cons, RepM]
      exact ⟨[], B₂, _, vs', rfl, rfl, rfl, hx, h2⟩
    · rename_i hs
      obtain ⟨r, hr, rfl⟩ := Option.map_eq_some_iff.1 hp
      rcases mpPut_rep hx h2 hr with ⟨f1, f2⟩ | ⟨j, e0, B', g1, g2, g3, g4, g5⟩
      · refine .inl ⟨fun i => by simp [Instr.findNow, hk, hs, f1], fun born => ?_⟩
        simp only [RepM, List.cons_append]
        exact ⟨B₁, B₂, u, _, rfl, rfl, hk, h1, f2 born⟩
      · refine .inr ⟨j + 1, e0, B₁ ++ B', by simpa using g1, fun i => by simp [Instr.findNow, hk, hs, g2]; omega, g3, ?_, (List.Sublist.refl _).append g5⟩
        simp only [List.modify_succ_cons, RepM]
        exact ⟨B₁, B', u, _, rfl, rfl, hk, h1, g4⟩
    · cases hp

theorem s_makeMap (h : StRelAt c st a w I hdr F) {t : TypeId} {r : Option Operand} {K : Eff → Prop} (ho : o.op = .makeMap t r) (hK : makeMapOp P o.dst t (r.map (opv st)) K) : Goes P o c st a w K := by
  unfold makeMapOp at hK
  split at hK
  case h_2 => exact hK.elim
  rename_i d hd
  have hat : (w.alloc (.map #[] 0)).heap[w.heap.size]? = some (.map #[] 0) := by
    show (w.heap.push _)[w.heap.size]? = _
    simp
  have hold : ∀ b : Nat, b < w.heap.size → (w.alloc (.map #[] 0)).heap[b]? = w.heap[b]? := fun b hb => by
    show (w.heap.push _)[b]? = _
    rw [Array.getElem?_push, if_neg (by omega)]
  have fin : K { val := .ref d, news := [(d, .mp [])] } → (execOp a.eval o).run P w = .ok (.value (.map (some w.heap.size))) (w.alloc (.map #[] 0)) → Goes P o c st a w K := by
    intro hK hrun
    refine goes_value _ hrun hK fun hok => ?_
    simp only [Eff.ok, hd, St.ws, newsOk] at hok
    obtain ⟨hdn, hfree, hnone, hno, _⟩ := hok
    have hgrow := h.grow hold (by simp) rfl rfl (by first | exact ⟨rfl, Nat.le_refl _⟩ | exact ⟨rfl, Nat.le_succ _⟩)
    have hname := hgrow.name hfree hnone (x := .mp []) (B := [w.heap.size]) (v := .map (some w.heap.size))
      (by simp only [Rep, RepM]; exact ⟨w.heap.size, #[], 0, [], rfl, rfl, hat, rfl, rfl⟩) hno rfl (by simp)
      (fun nm hx b hb hbB => by have := h.F_lt hx hb; simp at hbB; omega)
      (fun b hb hI => by have := h.hIlt b hI; simp at hb; omega)
      (fun b hb => by right; have := h.size; simp at hb; omega)
    simp only [St.app, hd, St.ws, St.nws]
    refine ⟨I, _, _, hname.put (hdn d rfl) ?_⟩
    simp only [Rep]
    exact ⟨trivial, upd_same _ _ _⟩
  split at hK
  · rename_i hr
    have e : r = none := by cases r with | none => rfl | some x => cases hr
    subst e
    exact fin hK (by simp [execOp, ho, Instr.makeMap])
  · rename_i k n hr
    obtain ⟨hm, hK⟩ := hK
    obtain ⟨⟨kt, et⟩, hm⟩ := Option.isSome_iff_exists.1 hm
    have hu := mapT_spec hm
    cases r with
    | none => cases hr
    | some x =>
      simp only [Option.map_some, Option.some.injEq] at hr
      have hx := rep_opv h x
      rw [hr] at hx
      have ex := rep_val hx
      exact fin hK (by simp [execOp, ho, Instr.makeMap, run_underlying hu, ex, asInt, asIntOf])
  · exact hK.elim

theorem s_lookup (h : StRelAt c st a w I hdr F) {t : TypeId} {x ix : Operand} {ok : Bool} {K : Eff → Prop} (ho : o.op = .lookup t x ix ok) (hK : lookupOp P st t (opv st x) (opv st ix) ok K) : Goes P o c st a w K := by
  have hx := rep_opv h x
  have hix := rep_opv h ix
  unfold lookupOp at hK
  split at hK
  case h_2 => exact hK.elim
  rename_i nm key kt et hxe hie hmt
  have hu := mapT_spec hmt
  rw [hxe] at hx
  rw [hie] at hix
  have ei := rep_val hix
  split at hK
  case h_2 => exact hK.elim
  rename_i es d z hes hd hz
  obtain ⟨hp, hK⟩ := hK
  unfold tzero at hz
  rw [Option.bind_eq_some_iff] at hz
  obtain ⟨inf, hi, hz⟩ := hz
  simp only [Rep] at hx
  obtain ⟨v', hv', hr⟩ := h.ob nm _ hes
  rw [hx.2] at hv'
  cases hv'
  simp only [Rep] at hr
  obtain ⟨b, ents, clock, B', hv, hB, hb, hr⟩ := hr
  split at hK
  · rename_i y hf
    obtain ⟨hc, hK⟩ := hK
    obtain ⟨j, v, Bx, hfn, hrx⟩ := findNow_rep 0 hr hf
    have e := cpy_nil hc hrx
    subst e
    have hrx' := rep_nohdr_of_none hdr hrx
    cases ok with
    | true =>
      refine goes_pure h _ rfl rfl (v := .tuple #[v, .bool true]) (w' := w) ?_ (Same.refl w) hK ?_
      · simp [execOp, ho, hv, ei, Instr.lookup, run_underlying hu, run_getMap hb, run_plainKey hd hp, run_findMap hd hfn]
      · simp only [Rep, RepL, cond_true]
        exact ⟨_, rfl, [], [], v, [.bool true], rfl, rfl, hrx', [], [], .bool true, [], rfl, rfl, ⟨rfl, rfl⟩, rfl, rfl⟩
    | false =>
      refine goes_pure h _ rfl rfl (v := v) (w' := w) ?_ (Same.refl w) hK hrx'
      simp [execOp, ho, hv, ei, Instr.lookup, run_underlying hu, run_getMap hb, run_plainKey hd hp, run_findMap hd hfn]
  · rename_i hf
    have hfn := findNow_rep 0 hr hf
    simp only at hfn
    have hzv : (zeroValue et).run P w = .ok z w := by simp [zeroValue, typeInfo, hi, hz]
    cases ok with
    | true =>
      refine goes_pure h _ rfl rfl (v := .tuple #[z, .bool false]) (w' := w) ?_ (Same.refl w) hK ?_
      · simp [execOp, ho, hv, ei, Instr.lookup, run_underlying hu, run_getMap hb, run_plainKey hd hp, run_findMap hd hfn, hzv]
      · simp only [Rep, RepL, cond_true]
        exact ⟨_, rfl, [], [], z, [.bool false], rfl, rfl, ⟨rfl, rfl⟩, [], [], .bool false, [], rfl, rfl, ⟨rfl, rfl⟩, rfl, rfl⟩
    | false =>
      refine goes_pure h _ rfl rfl (v := z) (w' := w) ?_ (Same.refl w) hK (by simp only [Rep, cond_false]; exact ⟨trivial, trivial⟩)
      simp [execOp, ho, hv, ei, Instr.lookup, run_underlying hu, run_getMap hb, run_plainKey hd hp, run_findMap hd hfn, hzv]
  · exact hK.elim

theorem s_mapUpdate (h : StRelAt c st a w I hdr F) {t : TypeId} {x k y : Operand} {K : Eff → Prop} (ho : o.op = .mapUpdate t x k y ∨ o.op = .insert t x k y) (hK : mapUpdateOp P st t (opv st x) (opv st k) (opv st y) K) : Goes P o c st a w K := by
  have hx := rep_opv h x
  have hk := rep_opv h k
  have hy := rep_opv h y
  unfold mapUpdateOp at hK
  split at hK
  case h_2 => exact hK.elim
  rename_i nm key kt et hxe hke hmt
  have hu := mapT_spec hmt
  rw [hxe] at hx
  rw [hke] at hk
  have ek := rep_val hk
  split at hK
  case h_2 => exact hK.elim
  rename_i es d hes hd
  obtain ⟨hp, hn, hK⟩ := hK
  split at hK
  case h_2 => exact hK.elim
  rename_i es' hput
  have hy0 := Rep.nohdr (fun _ => none) _ _ _ hn hy
  have hno : st.o nm ≠ none := by rw [hes]; simp
  simp only [Rep] at hx
  obtain ⟨v', hv', hr⟩ := h.ob nm _ hes
  rw [hx.2] at hv'
  cases hv'
  simp only [Rep] at hr
  obtain ⟨b, ents, clock, B', hv, hB, hb, hr⟩ := hr
  have hnd := h.nd nm hno
  rw [hB] at hnd
  have hbI : ¬ I b := h.oi nm hno b (by rw [hB]; simp)
  have hblt := (Array.getElem?_eq_some_iff.1 hb).1
  have exec : ∀ w', (Instr.mapUpdate t (.map (some b)) key (a.eval y)).run P w = .ok () w' → (execOp a.eval o).run P w = .ok .skip w' := by
    intro w' hr
    rcases ho with ho | ho <;> simp [execOp, ho, hv, ek, hr]
  have fin : ∀ (ents' : Array MapEntry) (clock' : Nat) (B2 : List Nat), (Instr.mapUpdate t (.map (some b)) key (a.eval y)).run P w = .ok () { w with heap := w.heap.setIfInBounds b (.map ents' clock') } →
      RepM w I es' B2 ents'.toList → B2.Sublist B' → Goes P o c st a w K := by
    intro ents' clock' B2 hrun hrep hsub K' Q hQ
    unfold Oper.wp
    rw [exec _ hrun]
    refine hQ _ _ _ hK fun hok' => ?_
    have hw' : ∀ j, j ≠ b → ({ w with heap := w.heap.setIfInBounds b (.map ents' clock') } : World).heap[j]? = w.heap[j]? := fun j hj => by
      show (w.heap.setIfInBounds b _)[j]? = w.heap[j]?
      rw [Array.getElem?_setIfInBounds, if_neg (fun e => hj e.symm)]
    have hat : ({ w with heap := w.heap.setIfInBounds b (.map ents' clock') } : World).heap[b]? = some (.map ents' clock') := by
      simp [hblt]
    have h2 := h.turn (x' := .mp es') (B' := b :: B2) (w' := { w with heap := w.heap.setIfInBounds b (.map ents' clock') }) hes (hx.2.trans (by rw [hv]))
      (by
        simp only [Rep]
        refine ⟨b, ents', clock', B2, rfl, rfl, hat, ?_⟩
        exact RepM.frame (fun _ hb => hb) (fun j hj => hw' j (fun e => hbI (e ▸ hj))) _ _ _ (fun j hj => hw' j (fun e => by subst e; exact (List.nodup_cons.1 hnd).1 (hsub.subset hj))) hrep)
      (fun j _ hj => hw' j (fun e => hj (e ▸ by rw [hB]; simp))) (by simp) rfl rfl (by first | exact ⟨rfl, Nat.le_refl _⟩ | exact ⟨rfl, Nat.le_succ _⟩)
      (List.nodup_cons.2 ⟨fun hj => (List.nodup_cons.1 hnd).1 (hsub.subset hj), hsub.nodup (List.nodup_cons.1 hnd).2⟩)
      (fun j hj => .inl (by
        rw [hB]
        rcases List.mem_cons.1 hj with rfl | hj
        · simp
        · exact List.mem_cons_of_mem _ (hsub.subset hj)))
    simp only [St.app, St.ws, St.nws]
    cases hdst : o.dst with
    | none => exact ⟨I, hdr, _, h2⟩
    | some d => exact ⟨I, hdr, _, h2.put (hok'.1 d hdst) (by simp [Rep])⟩
  rcases mpPut_rep hy0 hr hput with ⟨f1, f2⟩ | ⟨j, e0, B2, g1, g2, g3, g4, g5⟩
  · refine fin (ents.push { key, val := a.eval y, born := clock }) (clock + 1) B' ?_ (by simpa using f2 clock) (List.Sublist.refl _)
    simp [Instr.mapUpdate, run_underlying hu, run_getMap hb, run_plainKey hd hp, run_findMap hd (f1 0), run_setMap _ hb]
  · have g2' := g2 0
    rw [Nat.zero_add] at g2'
    have g1' : ents[j]? = some e0 := by simpa using g1
    refine fin (ents.modify j fun e => { e with key, val := a.eval y }) clock B2 ?_ (by simpa using g4) g5
    simp [Instr.mapUpdate, run_underlying hu, run_getMap hb, run_plainKey hd hp, run_findMap hd g2', run_setMap _ hb, Instr.keyThatStays, g1', sameNow_bits g3]

/-- **The model's operation does what the abstract one says.** -/
theorem aop_sound {fz : Nat → Bool} (h : StRelAt c st a w I hdr F) {K : Eff → Prop} (hK : aop P fz o st K) : Goes P o c st a w K := by
  unfold aop at hK
  split at hK
  · exact s_move h (.inl (by assumption)) hK
  · exact s_move h (.inr (by assumption)) hK
  · exact s_pick h (by assumption) hK
  · split at hK
    · exact s_box h (by assumption) (by assumption) hK
    · exact hK.elim
  · split at hK
    · exact s_alloc h (by assumption) (by assumption) hK
    · exact hK.elim
  · exact s_load h (by assumption) hK
  · exact s_fieldAddr h (by assumption) hK
  · exact s_nilCheck h (by assumption) hK
  · exact s_indexAddr h (by assumption) hK
  · exact s_extract h (by assumption) hK
  · exact s_cmp h (by assumption) hK
  · exact s_un h (by assumption) hK
  · exact s_conv h (by assumption) hK
  · exact s_makeFunc h (by assumption) hK
  · exact s_build h (by assumption) hK
  · rename_i ho
    cases hz : fz (o.dst.getD 0 + 4000) with
    | true => rw [hz] at hK; exact s_buildSliceF h ho hK
    | false =>
      rw [hz] at hK
      cases hz2 : fz (o.dst.getD 0 + 8000) with
      | true => rw [hz2] at hK; exact s_buildSliceW h ho hK
      | false => rw [hz2] at hK; exact s_buildSlice h ho hK
  · exact s_store h (by assumption) hK
  · exact s_makeSlice h (by assumption) hK
  · rename_i ho
    cases hz : fz (o.dst.getD 0 + 9000) with
    | true => rw [hz] at hK; exact s_slicePfx h ho hK
    | false => rw [hz] at hK; exact s_slice2 h ho hK
  · exact s_index h (by assumption) hK
  · exact s_makeMap h (by assumption) hK
  · exact s_lookup h (by assumption) hK
  · exact s_mapUpdate h (.inl (by assumption)) hK
  · exact s_mapUpdate h (.inr (by assumption)) hK
  · rename_i args argTypes ho
    split at hK
    · rename_i x y t t' h1 h2
      have e1 : args = #[x, y] := by cases args; simp_all
      have e2 : argTypes = #[t, t'] := by cases argTypes; simp_all
      subst e1; subst e2
      cases hz : fz (o.dst.getD 0 + 5000) with
      | true => rw [hz] at hK; exact s_appendF h ho hK
      | false => rw [hz] at hK; exact s_append h ho hK
    · exact hK.elim
  · rename_i args argTypes ho
    split at hK
    · rename_i x t h1 h2
      have e1 : args = #[x] := by cases args; simp_all
      have e2 : argTypes = #[t] := by cases argTypes; simp_all
      subst e1; subst e2
      exact s_clear h ho hK
    · exact hK.elim
  · rename_i args argTypes ho
    split at hK
    · rename_i x y t t' h1 h2
      have e1 : args = #[x, y] := by cases args; simp_all
      have e2 : argTypes = #[t, t'] := by cases argTypes; simp_all
      subst e1; subst e2
      exact s_copy h ho hK
    · exact hK.elim
  · rename_i args argTypes ho
    split at hK
    · rename_i x t h1 h2
      have e1 : args = #[x] := by cases args; simp_all
      have e2 : argTypes = #[t] := by cases argTypes; simp_all
      subst e1; subst e2
      exact s_len h ho hK
    · exact hK.elim
  · rename_i args argTypes ho
    split at hK
    · rename_i x t h1 h2
      have e1 : args = #[x] := by cases args; simp_all
      have e2 : argTypes = #[t] := by cases argTypes; simp_all
      subst e1; subst e2
      exact s_cap h ho hK
    · exact hK.elim
  · rename_i args argTypes ho
    split at hK
    · rename_i x y h1
      have e1 : args = #[x, y] := by cases args; simp_all
      subst e1
      exact s_min h ho hK
    · exact hK.elim
  · exact hK.elim
end
end Go.AM
