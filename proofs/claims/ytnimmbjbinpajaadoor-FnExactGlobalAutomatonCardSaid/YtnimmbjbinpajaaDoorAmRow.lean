/-
  The abstract machine: a row's arguments opened, and a row out of a contract.
-/
import Derived.Test.YtnimmbjbinpajaaDoorAmTac
import Derived.Lib.LaidTab
import Derived.LaidMore
import Derived.MakeChecks
import Derived.SevenTiedAt
import Derived.WalkKit
import Derived.ProofKit
import Derived.OpenShut
import Derived.ShutString
import Derived.ChangeOld
import Derived.SizedLaws
import Derived.ChangeArms
import Derived.Carry
set_option linter.unusedVariables false
namespace Go.AM
open Go.ChangeShapes Go.WideShapes Go.ChangeAt Go.RowKit
open Go.ChangeMaps (open_string shut_string)

def noHdr : Nat → Option Value := fun _ => none
def oldI (w : World) : Nat → Prop := fun b => b < w.heap.size

/-- The cells of a type's values are told by `E`. -/
def Opens (P : Program) (t : TypeId) {α : Type} (E : α → List AV) (ok : α → Prop) : Prop :=
  ∀ (H : Type) (enc : TypeId × Value → H) (w : World) (sp : Nat → Bool) (held : Bool) (fuel : Nat) (cs : List Value) (x : DataW H × List MemPlace),
    DataW.trod enc P w 0 sp held fuel t cs = some x → ∃ a, ok a ∧ RepL w (oldI w) (fun _ => none) (E a) [] cs

theorem repL_one {w : World} {I : Nat → Prop} {hdr : Nat → Option Value} {d : AV} {v : Value} (h : Rep w I hdr d [] v) : RepL w I hdr [d] [] [v] := by
  simp only [RepL]
  exact ⟨[], [], v, [], rfl, rfl, h, rfl, rfl⟩

theorem repL_app {w : World} {I : Nat → Prop} {hdr : Nat → Option Value} : ∀ {l l' : List AV} {vs vs' : List Value}, RepL w I hdr l [] vs → RepL w I hdr l' [] vs' → RepL w I hdr (l ++ l') [] (vs ++ vs')
  | [], l', vs, vs', h, h' => by
    simp only [RepL] at h
    rw [h.2]; simpa using h'
  | d :: ds, l', vs, vs', h, h' => by
    simp only [RepL] at h
    obtain ⟨B₁, B₂, v, us, e, rfl, h1, h2⟩ := h
    obtain ⟨rfl, rfl⟩ : B₁ = [] ∧ B₂ = [] := by simpa using e.symm
    simp only [List.cons_append, RepL]
    exact ⟨[], [], v, us ++ vs', rfl, rfl, h1, repL_app h2 h'⟩

theorem opens_int {P : Program} {t : TypeId} {k : IntKind} (ht : P.underlying t = some (.int k)) : Opens P t (fun n : Int => [.val (.int k n)]) (fun n => (Lit.int k n).wf = true) := by
  intro H enc w sp held fuel cs x h
  obtain ⟨n, rfl, rfl, hw⟩ := DataW.trod_int ht h
  exact ⟨n, hw, repL_one (by simp [Rep])⟩

theorem opens_string {P : Program} {t : TypeId} (ht : P.underlying t = some .string) : Opens P t (fun s : ByteArray => [.val (.string s)]) (fun s => s.size ≤ maxLen) := by
  intro H enc w sp held fuel cs x h
  obtain ⟨n, rfl, rfl, hw⟩ := DataW.trod_string ht h
  exact ⟨n, hw, repL_one (by simp [Rep])⟩

theorem opens_bool {P : Program} {t : TypeId} (ht : P.underlying t = some .bool) : Opens P t (fun s : Bool => [.val (.bool s)]) (fun _ => True) := by
  intro H enc w sp held fuel cs x h
  obtain ⟨n, rfl, rfl⟩ := DataW.trod_bool ht h
  exact ⟨n, trivial, repL_one (by simp [Rep])⟩

theorem cellsAt_app {w : World} {a : Addr} {us vs : List Value} (h : CellsAt w a us) (h' : CellsAt w (a.add us.length) vs) : CellsAt w a (us ++ vs) := by
  intro i u hu
  by_cases hi : i < us.length
  · exact h i u (by rwa [List.getElem?_append_left hi] at hu)
  · rw [List.getElem?_append_right (by omega)] at hu
    have := h' _ _ hu
    rwa [Addr.add_add, show us.length + (i - us.length) = i by omega] at this

theorem cellsAt_of_cells? {w : World} {b0 : Nat} {a : Addr} {n : Nat} {cs : List Value} (h : w.cells? b0 a n = some cs) : cs.length = n ∧ CellsAt w a cs := by
  obtain ⟨_, hn, hc⟩ := World.cells?_some h
  refine ⟨hn, fun i u hu => ?_⟩
  have hi : i < n := by rw [← hn]; exact (List.getElem?_eq_some_iff.1 hu).1
  rw [hc i hi, hu]

/-- A slice of what opens. -/
theorem opens_slice {P : Program} {t e : TypeId} {n : Nat} {α : Type} {E : α → List AV} {ok : α → Prop} (ht : P.underlying t = some (.slice e)) (hn : P.cellsOf e = n) (he : Opens P e E ok) (hE : ∀ a, (E a).length = n) :
    Opens P t (fun p : Bool × List α => [.sl n p.1 (p.2.flatMap E)]) (fun p => p.2.length ≤ maxLen ∧ ∀ a ∈ p.2, ok a) := by
  intro H enc w sp held fuel cs x h
  rcases DataW.trod_slice ht h with ⟨rfl, _⟩ | ⟨a, len, cap, elems, rest, m, _, rfl, rfl, hb, hl, hm, hlen, hel, hsp, hns⟩
  · exact ⟨(false, []), by simp, repL_one (by simp [Rep, nilSlice])⟩
  have each : ∀ k, k ≤ len → ∃ (l : List α) (us : List Value), l.length = k ∧ us.length = k * n ∧ (∀ a ∈ l, ok a) ∧ CellsAt w a us ∧ RepL w (oldI w) (fun _ => none) (l.flatMap E) [] us ∧ (us ≠ [] → oldI w a.block) := by
    intro k
    induction k with
    | zero => intro _; exact ⟨[], [], rfl, by simp, by simp, by intro i u hu; simp at hu, by simp [RepL], by simp⟩
    | succ k ih =>
      intro hk
      obtain ⟨l, us, h1, h2, h3, h4, h5, h6⟩ := ih (by omega)
      have := hel k (by omega)
      rw [List.getElem?_eq_getElem (by omega), Option.bind_eq_some_iff, hn] at this
      obtain ⟨cs, hcs, hy⟩ := this
      obtain ⟨a', hok, hr⟩ := he H enc w sp held m cs _ hy
      obtain ⟨hc1, hc2⟩ := cellsAt_of_cells? hcs
      refine ⟨l ++ [a'], us ++ cs, by simp [h1], by simp [h2, hc1, Nat.succ_mul], ?_, cellsAt_app h4 (by rw [h2]; exact hc2), ?_, ?_⟩
      · intro b hb
        rcases List.mem_append.1 hb with hb | hb
        · exact h3 b hb
        · simp at hb; subst hb; exact hok
      · simp only [List.flatMap_append, List.flatMap_cons, List.flatMap_nil, List.append_nil]
        exact repL_app h5 hr
      · intro _
        by_cases hus : us = []
        · subst hus
          by_cases hcs0 : cs = []
          · simp_all
          · have h9 := World.cells?_block hcs (by rw [← hc1]; exact List.length_pos_iff.2 hcs0)
            have : (a.add (k * n)).block = a.block := by unfold Addr.add; split <;> rfl
            unfold oldI; omega
        · exact h6 hus
  obtain ⟨l, us, h1, h2, h3, h4, h5, h6⟩ := each len (Nat.le_refl _)
  refine ⟨(true, l), ⟨show l.length ≤ maxLen by omega, h3⟩, repL_one (d := .sl n true (l.flatMap E)) ?_⟩
  simp only [Rep]
  have hll : us.length = (l.flatMap E).length := RepL.length h5
  refine ⟨trivial, .inr ⟨a, len, cap, us, rfl, by omega, hl, fun hne => h6 ?_, h4, h5⟩⟩
  intro e'
  rw [e'] at hll
  exact hne (List.length_eq_zero_iff.1 (by simpa using hll.symm))

/-- The fields of a struct, from a place on. -/
def OpensF (P : Program) (off : Nat) (fs : List Field) {α : Type} (E : α → List AV) (ok : α → Prop) : Prop :=
  ∀ (H : Type) (enc : TypeId × Value → H) (w : World) (sp : Nat → Bool) (held : Bool) (fuel : Nat) (cs : List Value) (xs : List (DataW H × List MemPlace)),
    (∀ (i : Nat) (f : Field), fs[i]? = some f → DataW.trod enc P w 0 sp held fuel f.type ((cs.drop f.offset).take (P.cellsOf f.type)) = xs[i]?) → xs.length = fs.length →
    cs.length = off + (fs.map fun f => P.cellsOf f.type).sum → ∃ a, ok a ∧ RepL w (oldI w) (fun _ => none) (E a) [] (cs.drop off)

theorem opensF_nil {P : Program} {off : Nat} : OpensF P off [] (fun _ : Unit => []) (fun _ => True) := by
  intro H enc w sp held fuel cs xs _ _ hl
  refine ⟨(), trivial, ?_⟩
  simp only [RepL]
  simp at hl
  simp [hl]

theorem opensF_cons {P : Program} {off n : Nat} {f : Field} {fs : List Field} {α β : Type} {E : α → List AV} {ok : α → Prop} {E' : β → List AV} {ok' : β → Prop} (hoff : f.offset = off) (hn : P.cellsOf f.type = n)
    (h1 : Opens P f.type E ok) (h2 : OpensF P (off + n) fs E' ok') : OpensF P off (f :: fs) (fun p : α × β => E p.1 ++ E' p.2) (fun p => ok p.1 ∧ ok' p.2) := by
  intro H enc w sp held fuel cs xs hx hl hlen
  cases xs with
  | nil => simp at hl
  | cons x xs =>
    have e0 := hx 0 f rfl
    simp only [List.getElem?_cons_zero] at e0
    obtain ⟨a, hok, hr⟩ := h1 H enc w sp held fuel _ _ e0
    obtain ⟨b, hok', hr'⟩ := h2 H enc w sp held fuel cs xs (fun i g hg => by
      have := hx (i + 1) g (by simpa using hg)
      simpa using this) (by simpa using hl) (by simp [hn] at hlen; omega)
    refine ⟨(a, b), ⟨hok, hok'⟩, ?_⟩
    have : cs.drop off = (cs.drop f.offset).take (P.cellsOf f.type) ++ cs.drop (off + n) := by
      rw [hoff, hn, ← List.drop_drop, List.take_append_drop]
    rw [this]
    exact repL_app hr hr'

theorem opens_struct {P : Program} {t : TypeId} {fs : Array Field} {α : Type} {E : α → List AV} {ok : α → Prop} (ht : P.underlying t = some (.struct fs)) (hc : P.cellsOf t = (fs.toList.map fun f => P.cellsOf f.type).sum)
    (h : OpensF P 0 fs.toList E ok) : Opens P t E ok := by
  intro H enc w sp held fuel cs x hx
  obtain ⟨xs, n, rfl, rfl, hl, hxl, he⟩ := DataW.trod_struct ht hx
  obtain ⟨a, hok, hr⟩ := h H enc w sp held n cs xs (fun i f hf => he i f (by simpa using hf)) (by simpa using hxl) (by rw [hl, hc]; simp)
  exact ⟨a, hok, by simpa using hr⟩

theorem opens_map {P : Program} {t : TypeId} {α β : Type} {E : α → List AV} {ok : α → Prop} {E' : β → List AV} {ok' : β → Prop} (h : Opens P t E ok) (f : α → β) (he : ∀ a, ok a → E' (f a) = E a) (ho : ∀ a, ok a → ok' (f a)) : Opens P t E' ok' := by
  intro H enc w sp held fuel cs x hx
  obtain ⟨a, hok, hr⟩ := h H enc w sp held fuel cs x hx
  exact ⟨f a, ho a hok, by rw [he a hok]; exact hr⟩

/-- An argument. -/
def OpensA (P : Program) (t : TypeId) {α : Type} (A : α → AV) (ok : α → Prop) : Prop :=
  ∀ (H : Type) (enc : TypeId × Value → H) (w : World) (b0 : Nat) (v : Value) (d : DataW H) (p : List MemPlace),
    Value.okWide P w .any b0 t v → DataW.Trod enc P w 0 (fun _ => true) true t v d p → ∃ a, ok a ∧ Rep w (oldI w) (fun _ => none) (A a) [] v

theorem opensA_int {P : Program} {t : TypeId} {k : IntKind} (ht : P.underlying t = some (.int k)) : OpensA P t (fun n : Int => .val (.int k n)) (fun n => (Lit.int k n).wf = true) := by
  intro H enc w b0 v d p hv hd
  obtain ⟨n, rfl, _, _, hw⟩ := open_int ht hv hd
  exact ⟨n, hw, by simp [Rep]⟩

theorem opensA_string {P : Program} {t : TypeId} (ht : P.underlying t = some .string) : OpensA P t (fun n : ByteArray => .val (.string n)) (fun n => n.size ≤ maxLen) := by
  intro H enc w b0 v d p hv hd
  obtain ⟨n, rfl, _, _, hw⟩ := open_string ht hv hd
  exact ⟨n, hw, by simp [Rep]⟩

theorem opensA_slice {P : Program} {t e : TypeId} {α : Type} {A : α → AV} {ok : α → Prop} (ht : P.underlying t = some (.slice e)) (h : Opens P t (fun a => [A a]) ok) : OpensA P t A ok := by
  intro H enc w b0 v d p hv hd
  obtain ⟨a, n, c, rfl⟩ := okWide_slice ht hv
  obtain ⟨fuel, hf⟩ := hd
  obtain ⟨x, hok, hr⟩ := h H enc w _ _ fuel _ _ hf
  refine ⟨x, hok, ?_⟩
  simp only [RepL] at hr
  obtain ⟨B₁, B₂, u, us, e1, e2, h1, _⟩ := hr
  simp [Value.cells] at e2
  obtain ⟨rfl, rfl⟩ : B₁ = [] ∧ B₂ = [] := by simpa using e1.symm
  rw [e2.1]; exact h1

theorem opensA_struct {P : Program} {t : TypeId} {fs : Array Field} {α : Type} {E : α → List AV} {ok : α → Prop} (ht : P.underlying t = some (.struct fs)) (h : Opens P t E ok) : OpensA P t (fun a => .agg (E a)) ok := by
  intro H enc w b0 v d p hv hd
  unfold Value.okWide at hv
  rw [ht] at hv
  obtain ⟨cs, rfl, _, _⟩ := hv
  obtain ⟨fuel, hf⟩ := hd
  obtain ⟨x, hok, hr⟩ := h H enc w _ _ fuel _ _ hf
  refine ⟨x, hok, ?_⟩
  simp only [Rep]
  exact ⟨cs, rfl, by simpa [Value.cells] using hr⟩

/-- All arguments. -/
def OpensL (P : Program) (ts : List TypeId) {α : Type} (A : α → List AV) (ok : α → Prop) : Prop :=
  ∀ (H : Type) (enc : TypeId × Value → H) (w : World) (b0 : Nat) (vs : List Value) (ds : List (DataW H)) (p : List MemPlace),
    (∀ (j : Nat) t v, ts[j]? = some t → vs[j]? = some v → Value.okWide P w .any b0 t v) → DataW.TrodAll enc P w 0 (fun _ => true) true ts vs ds p → ds.length = ts.length ∧ ∃ a, ok a ∧ RepL w (oldI w) (fun _ => none) (A a) [] vs

theorem opensL_nil {P : Program} : OpensL P [] (fun _ : Unit => []) (fun _ => True) := by
  intro H enc w b0 vs ds p _ h
  obtain ⟨rfl, rfl, rfl⟩ := trodAll_nil h
  exact ⟨rfl, (), trivial, by simp [RepL]⟩

theorem opensL_cons {P : Program} {t : TypeId} {ts : List TypeId} {α β : Type} {A : α → AV} {ok : α → Prop} {A' : β → List AV} {ok' : β → Prop} (h1 : OpensA P t A ok) (h2 : OpensL P ts A' ok') :
    OpensL P (t :: ts) (fun p : α × β => A p.1 :: A' p.2) (fun p => ok p.1 ∧ ok' p.2) := by
  intro H enc w b0 vs ds p hv h
  obtain ⟨v, vs, d, ds, p, q, rfl, rfl, rfl, h, r⟩ := trodAll_cons h
  obtain ⟨a, hok, hr⟩ := h1 H enc w b0 v d p (hv 0 t v rfl rfl) h
  obtain ⟨hl, b, hok', hr'⟩ := h2 H enc w b0 vs ds q (fun j t v ht hvv => hv (j + 1) t v (by simpa using ht) (by simpa using hvv)) r
  refine ⟨by simp [hl], (a, b), ⟨hok, hok'⟩, ?_⟩
  simp only [RepL]
  exact ⟨[], [], v, vs, rfl, rfl, hr, hr'⟩

theorem trodAll_stays {P : Program} {H : Type} {enc : TypeId × Value → H} (hl : laidOutB P = true) {W W' : World} (hb : Below W.heap.size W W') :
    ∀ {ts : List TypeId} {vs : List Value} {ds : List (DataW H)} {p : List MemPlace}, (ts.all fun t => P.readableRec t && decide (t < P.types.size)) = true →
      DataW.TrodAll enc P W 0 (fun _ => true) true ts vs ds p → DataW.TrodAll enc P W' 0 (fun b => decide (b < W.heap.size)) true ts vs ds p
  | [], vs, ds, p, _, h => by
    obtain ⟨rfl, rfl, rfl⟩ := trodAll_nil h
    rfl
  | t :: ts, vs, ds, p, ht, h => by
    obtain ⟨v, vs, d, ds, p, q, rfl, rfl, rfl, h, r⟩ := trodAll_cons h
    simp only [List.all_cons, Bool.and_eq_true, decide_eq_true_eq] at ht
    exact ⟨p, q, Below.trod hl ht.1.1 ht.1.2 h hb (by obtain ⟨m, hm⟩ := h; exact DataW.trod_lt m _ _ _ hm), trodAll_stays hl hb (by simpa using ht.2) r, rfl⟩

/-- A law's walk: true, and nothing old has turned. -/
theorem law_calls {P : Program} {N : FuncId} {w : World} {avs : List AV} {vs : List Value} (h : ACalls1 P N avs (bv true)) (hG : GOK P w (oldI w)) (hr : RepL w (oldI w) (fun _ => none) avs [] vs) :
    Calls P N vs.toArray w fun e w' => e = .returned (.bool true) ∧ Below w.heap.size w w' := by
  refine (h.2 w (oldI w) [] vs (fun b hb => hb) hG hr List.nodup_nil (fun b hb => by cases hb)).mono ?_
  rintro e w' ⟨args', r, v, I', B₁, B₂, rfl, rfl, _, _, _, hv, _, _, _, hfr, hsz, hos, htp, hout⟩
  simp only [Rep] at hv
  refine ⟨by rw [hv.2], ?_⟩
  exact ⟨hos, htp, hout.1, hsz, fun b hb => hfr b hb (by simp)⟩
end Go.AM

namespace Go.AM
open Go.ChangeShapes Go.WideShapes Go.ChangeAt Go.RowKit
/-- A row out of a law's contract. -/
theorem gok_none {P : Program} (h : (tabList.all fun p => (P.globalNamed p.1).isNone) = true) (w : World) (I : Nat → Prop) : GOK P w I := by
  intro nm tab g hm hg
  have := List.all_eq_true.1 h _ hm
  simp only [hg] at this
  cases this
theorem gok_tz {P : Program} {W : World} {g : Nat} (hg : P.globalNamed "math/bits.deBruijn64tab" = some g) (hT : Lib.TabIs P W "math/bits.deBruijn64tab" .u8 (Lib.deBruijn64tab.map fun (n : Nat) => (n : Int))) : GOK P W (oldI W) := by
  intro nm tab g' hm hg'
  simp only [tabList, List.mem_singleton, Prod.mk.injEq] at hm
  obtain ⟨rfl, rfl⟩ := hm
  obtain rfl := Option.some.inj (hg.symm.trans hg')
  have hc : ∀ j (v : Value), (Lib.deBruijn64tab.map fun (n : Nat) => Value.int .u8 (n : Int))[j]? = some v → W.cell? ⟨g, j, none⟩ = some v := by
    intro j v hv
    rw [List.getElem?_map] at hv
    obtain ⟨n, hn, rfl⟩ := Option.map_eq_some_iff.1 hv
    have hj : j < Lib.deBruijn64tab.length := (List.getElem?_eq_some_iff.1 hn).1
    rw [hT.cell hg j (by simpa using hj)]
    simp only [List.getD_eq_getElem?_getD, List.getElem?_map, hn]
    rfl
  refine ⟨?_, hc⟩
  have h0 := hc 0 _ rfl
  unfold World.cell? at h0
  simp only at h0
  cases hh : W.heap[g]? with
  | none => rw [hh] at h0; cases h0
  | some o => exact (Array.getElem?_eq_some_iff.1 hh).1
theorem lift_of {C : Checked} {os : Os} {N : FuncId} {fn : Func} {s : ChangeSpec} {conds : List PathCond} {α : Type} {A : α → List AV} {ok : α → Prop} {rt : TypeId} (hopen : OpensL C.prog fn.params.toList A ok) (hlaw : ∀ a, ok a → ACalls1 C.prog N (A a) (bv true)) (hG : (tabList.all fun p => (C.prog.globalNamed p.1).isNone) = true)
    (hspec : ∀ (H : Type) (ds : List (DataW H)), ds.length = fn.params.toList.length → (s.fn H ds).results = [.lit (.bool true)] ∧ (s.fn H ds).args = ds ∧ (s.fn H ds).vars = [])
    (own : ownKnob C.prog.godebug = none) (started : os.Started) (hfn : C.prog.funcs[N]? = some fn) (hvars : s.vars = []) (noInit : C.prog.inits.idxOf? N = none) (hres : fn.resultTypes = #[rt]) (hrt : C.prog.underlying rt = some .bool) (hl : laidOutB C.prog = true)
    (hts : (fn.params.toList.all fun t => C.prog.readableRec t && decide (t < C.prog.types.size)) = true) {H : Type} {enc : TypeId × Value → H}
    (witness : ∃ (w : World) (tape : Tape) (i : Input), w.os = os ∧ (w.forCall tape i).Shaped C.prog ∧ i.vars = [] ∧ Input.okWide C.prog (w.forCall tape i) .any w.heap.size N i ∧
      s.pre6 enc C.prog fn conds false (w.forCall tape i).memory i.args ∧ ({} : Assume).holds C.prog (lone (Frame.enter C.prog N i.args .normal) [] (w.forCall tape i))) :
    ReturnsInHanded {} C os N .any (s.pre6 enc C.prog fn conds false) (s.post enc C.prog fn false true false false) := by
  refine returnsInHanded_of_change_sized (C := C) own started noInit hfn witness ?_
  intro W base args ds gs before hval hW hcnd hsz _
  have hW' := hW
  obtain ⟨p, q, hA, hV, rfl, hfz, hnd⟩ := hW
  rw [hvars] at hV
  obtain ⟨rfl, rfl⟩ := trodVars_none hV
  obtain ⟨hds, a, hok, hr⟩ := hopen H enc W base args.toList ds p (fun j t v ht hv => hval j t v (by simpa using ht) (by simpa using hv)) hA
  have hc := law_calls (hlaw a hok) (gok_none hG _ _) hr
  rw [Array.toArray_toList] at hc
  refine hc.mono fun e W' ⟨he, bel⟩ => ⟨_, he, ?_⟩
  obtain ⟨h1, h2, h3⟩ := hspec H ds hds
  refine ⟨ds, [], p ++ [], [], p, [], hW', ?_, ?_, ?_, bel.frame _, fun h => by cases h⟩
  · rw [List.append_nil, h1, hres]
    exact trodAll_mk1 (shut_bool hrt _)
  · rw [List.append_nil, h2]
    exact trodAll_stays hl bel hts hA
  · rw [List.append_nil, h3, hvars]; rfl
/-- The same, of a row that lists tables. -/
theorem lift_laid {C : Checked} {os : Os} {N : FuncId} {fn : Func} {s : ChangeSpec} {L : List (String × DataW Unit)} {α : Type} {A : α → List AV} {ok : α → Prop} {rt : TypeId} (hopen : OpensL C.prog fn.params.toList A ok) (hlaw : ∀ a, ok a → ACalls1 C.prog N (A a) (bv true)) (hG : ∀ W, laidMetH C.prog L W → GOK C.prog W (oldI W))
    (hspec : ∀ (H : Type) (ds : List (DataW H)), ds.length = fn.params.toList.length → (s.fn H ds).results = [.lit (.bool true)] ∧ (s.fn H ds).args = ds ∧ (s.fn H ds).vars = [])
    (own : ownKnob C.prog.godebug = none) (started : os.Started) (hfn : C.prog.funcs[N]? = some fn) (hvars : s.vars = []) (noInit : C.prog.inits.idxOf? N = none) (hres : fn.resultTypes = #[rt]) (hrt : C.prog.underlying rt = some .bool) (hl : laidOutB C.prog = true)
    (hts : (fn.params.toList.all fun t => C.prog.readableRec t && decide (t < C.prog.types.size)) = true) {H : Type} {enc : TypeId × Value → H}
    (witness : ∃ (w : World) (tape : Tape) (i : Input), w.os = os ∧ (w.forCall tape i).Shaped C.prog ∧ i.vars = [] ∧ Input.okWide C.prog (w.forCall tape i) .any w.heap.size N i ∧
      ((s.pre enc C.prog fn [] false (w.forCall tape i).memory i.args ∧ laidMetH C.prog L (w.forCall tape i).memory) ∧ sizedMet enc C.prog fn (OpenSpec.ofChange s) false (w.forCall tape i).memory i.args) ∧ ({} : Assume).holds C.prog (lone (Frame.enter C.prog N i.args .normal) [] (w.forCall tape i))) :
    ReturnsInHanded {} C os N .any (fun w args => (s.pre enc C.prog fn [] false w args ∧ laidMetH C.prog L w) ∧ sizedMet enc C.prog fn (OpenSpec.ofChange s) false w args) (s.post enc C.prog fn false true false false) := by
  refine returnsInHanded_of_change_and (C := C) (X := fun w _ => laidMetH C.prog L w) (fun _ _ _ hh h => h.of_heap hh) own started noInit hfn witness ?_
  intro W base args ds gs before hval hW hcnd hsz hL _
  have hW' := hW
  obtain ⟨p, q, hA, hV, rfl, hfz, hnd⟩ := hW
  rw [hvars] at hV
  obtain ⟨rfl, rfl⟩ := trodVars_none hV
  obtain ⟨hds, a, hok, hr⟩ := hopen H enc W base args.toList ds p (fun j t v ht hv => hval j t v (by simpa using ht) (by simpa using hv)) hA
  have hc := law_calls (hlaw a hok) (hG W hL) hr
  rw [Array.toArray_toList] at hc
  refine hc.mono fun e W' ⟨he, bel⟩ => ⟨_, he, ?_⟩
  obtain ⟨h1, h2, h3⟩ := hspec H ds hds
  refine ⟨ds, [], p ++ [], [], p, [], hW', ?_, ?_, ?_, bel.frame _, fun h => by cases h⟩
  · rw [List.append_nil, h1, hres]
    exact trodAll_mk1 (shut_bool hrt _)
  · rw [List.append_nil, h2]
    exact trodAll_stays hl bel hts hA
  · rw [List.append_nil, h3, hvars]; rfl
end Go.AM
namespace Go.AM
theorem flat_rows (l : List (Bool × List Int)) : (l.flatMap fun n => [AV.sl 1 n.1 (n.2.flatMap fun n => [AV.val (.int .i64 n)])]) = l.map fun n => .sl 1 n.1 (n.2.map iv) := by
  induction l with
  | nil => rfl
  | cons x l ih =>
    simp only [List.flatMap_cons, ih, List.map_cons, List.singleton_append, List.cons.injEq, and_true, AV.sl.injEq, true_and]
    induction x.2 with
    | nil => rfl
    | cons y m ih => simp only [List.flatMap_cons, ih]; rfl
theorem flat_ints (l : List Int) : (l.flatMap fun n => [AV.val (.int .i64 n)]) = l.map iv := by
  induction l with
  | nil => rfl
  | cons x l ih => simp only [List.flatMap_cons, ih]; rfl
end Go.AM
