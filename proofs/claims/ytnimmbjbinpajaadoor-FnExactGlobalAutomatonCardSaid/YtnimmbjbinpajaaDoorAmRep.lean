/-
  The abstract machine: values, and what it means that a concrete value in a world is told by an abstract one.
-/
import Derived.Orders
import Derived.Below
namespace Go.AM

/-- Abstract values. `sl`: a slice that nobody writes any more, by its cells (`sz` cells an element); `ip`: a pointer to cells that nobody writes; `opw`: an owned slice some of whose cells lie open under names of their own; `own`, `box`: a slice, a pointer, onto a block that the holder alone knows; `ref`, `pt`, `sfx`: the header of a named node, a pointer to a cell of it, what is left of it behind so many cells. -/
inductive AV where
  | junk
  | val (v : Value)
  | agg (l : List AV)
  | tup (l : List AV)
  | sl (sz : Nat) (nn : Bool) (l : List AV)
  | ip (l : List AV)
  | fn (f : FuncId) (caps : List AV)
  | fno (f : FuncId) (caps : List AV)
  | fb (f : FuncId) (first : List AV)
  | own (sz : Nat) (nn : Bool) (l : List AV)
  | box (l : List AV)
  | mp (es : List (Value × AV))
  | opw (sz : Nat) (l : List AV)
  | ref (nm : Nat)
  | pt (nm : Nat) (off : Nat)
  | sfx (nm : Nat) (off : Nat)
  | pfx (nm : Nat) (k : Nat)
deriving Inhabited

def CellsAt (w : World) (a : Addr) (us : List Value) : Prop := ∀ i u, us[i]? = some u → w.cell? (a.add i) = some u

def addrOf : Value → Option Addr
  | .slice (some a) _ _ => some a
  | .pointer (some a) => some a
  | _ => none

def nilSlice : Value := .slice none 0 0

/-- A block of cells, none of which is marked (a mark may stand behind them). -/
def Row (w : World) (b : Nat) (C : Array Value) (ty : TypeId) : Prop := ∃ z : Nat × Nat, w.heap[b]? = some (.cells C ty z) ∧ (z = (0, 0) ∨ C.size ≤ z.1)
theorem Row.mk0 {w : World} {b : Nat} {C : Array Value} {ty : TypeId} (h : w.heap[b]? = some (.cells C ty (0, 0))) : Row w b C ty := ⟨_, h, .inl rfl⟩
theorem Row.frame {w w' : World} {b : Nat} {C : Array Value} {ty : TypeId} (h : Row w b C ty) (e : w'.heap[b]? = w.heap[b]?) : Row w' b C ty := by
  obtain ⟨z, h1, h2⟩ := h
  exact ⟨z, by rw [e]; exact h1, h2⟩
theorem Row.lt {w : World} {b : Nat} {C : Array Value} {ty : TypeId} (h : Row w b C ty) : b < w.heap.size := by
  obtain ⟨z, h1, h2⟩ := h
  exact (Array.getElem?_eq_some_iff.1 h1).1

mutual
def Rep (w : World) (I : Nat → Prop) (hdr : Nat → Option Value) : AV → List Nat → Value → Prop
  | .junk, B, _ => B = []
  | .val x, B, v => B = [] ∧ v = x
  | .agg l, B, v => ∃ cs : Array Value, v = .agg cs ∧ RepL w I hdr l B cs.toList
  | .tup l, B, v => ∃ cs : Array Value, v = .tuple cs ∧ RepL w I hdr l B cs.toList
  | .fno f l, B, v => ∃ cs : Array Value, v = .func (.func f) #[] cs ∧ RepL w I hdr l B cs.toList
  | .sl sz nn l, B, v => B = [] ∧ ((v = nilSlice ∧ l = [] ∧ nn = false) ∨
      ∃ a n c us, v = .slice (some a) n c ∧ n * sz = l.length ∧ n ≤ c ∧ (l ≠ [] → I a.block) ∧ CellsAt w a us ∧ RepL w I (fun _ => none) l [] us)
  | .ip l, B, v => B = [] ∧ ∃ a us, v = .pointer (some a) ∧ I a.block ∧ CellsAt w a us ∧ RepL w I (fun _ => none) l [] us
  | .fn f caps, B, v => B = [] ∧ ∃ cs : Array Value, v = .func (.func f) #[] cs ∧ RepL w I (fun _ => none) caps [] cs.toList
  | .fb f first, B, v => B = [] ∧ ∃ cs : Array Value, v = .func (.func f) cs #[] ∧ RepL w I (fun _ => none) first [] cs.toList
  | .own sz nn l, B, v => (v = nilSlice ∧ l = [] ∧ nn = false ∧ B = []) ∨
      ∃ b n c C ty B', v = .slice (some ⟨b, 0, none⟩) n c ∧ B = b :: B' ∧ Row w b C ty ∧ n * sz = l.length ∧ n ≤ c ∧ c * sz ≤ C.size ∧
        RepL w I (fun _ => none) l B' (C.toList.take l.length)
  | .box l, B, v => ∃ b C ty B', v = .pointer (some ⟨b, 0, none⟩) ∧ B = b :: B' ∧ Row w b C ty ∧ RepL w I hdr l B' C.toList
  | .mp es, B, v => ∃ b ents clock B', v = .map (some b) ∧ B = b :: B' ∧ w.heap[b]? = some (.map ents clock) ∧ RepM w I es B' ents.toList
  | .opw sz l, B, v => ∃ b n c C ty B', v = .slice (some ⟨b, 0, none⟩) n c ∧ B = b :: B' ∧ Row w b C ty ∧ n * sz = l.length ∧ n ≤ c ∧ c * sz ≤ C.size ∧
        RepL w I hdr l B' (C.toList.take l.length)
  | .ref nm, B, v => B = [] ∧ hdr nm = some v
  | .pt nm off, B, v => B = [] ∧ ∃ h a, hdr nm = some h ∧ addrOf h = some a ∧ v = .pointer (some (a.add off))
  | .sfx nm off, B, v => B = [] ∧ ∃ a n c, hdr nm = some (.slice (some a) n c) ∧ off < n ∧ n ≤ c ∧ v = .slice (some (a.add off)) (n - off) (c - off)
  | .pfx nm k, B, v => B = [] ∧ ∃ a n c, hdr nm = some (.slice (some a) n c) ∧ k ≤ n ∧ n ≤ c ∧ v = .slice (some a) k c
def RepL (w : World) (I : Nat → Prop) (hdr : Nat → Option Value) : List AV → List Nat → List Value → Prop
  | [], B, vs => B = [] ∧ vs = []
  | d :: ds, B, vs => ∃ B₁ B₂ v vs', B = B₁ ++ B₂ ∧ vs = v :: vs' ∧ Rep w I hdr d B₁ v ∧ RepL w I hdr ds B₂ vs'
def RepM (w : World) (I : Nat → Prop) : List (Value × AV) → List Nat → List MapEntry → Prop
  | [], B, vs => B = [] ∧ vs = []
  | (k, d) :: ds, B, vs => ∃ B₁ B₂ v vs', B = B₁ ++ B₂ ∧ vs = v :: vs' ∧ v.key = k ∧ Rep w I (fun _ => none) d B₁ v.val ∧ RepM w I ds B₂ vs'
end

theorem CellsAt.frame {w w' : World} {a : Addr} {us : List Value} (h : CellsAt w a us) (hb : us ≠ [] → w'.heap[a.block]? = w.heap[a.block]?) : CellsAt w' a us := by
  intro i u hu
  have hne : us ≠ [] := by intro e; rw [e] at hu; simp at hu
  have := h i u hu
  have hblk : (a.add i).block = a.block := by unfold Addr.add; split <;> rfl
  unfold World.cell? at *
  rw [hblk] at this ⊢
  rw [hb hne]; exact this

theorem RepL.length {w : World} {I : Nat → Prop} {hdr : Nat → Option Value} : ∀ {l : List AV} {B : List Nat} {vs : List Value}, RepL w I hdr l B vs → vs.length = l.length
  | [], _, _, h => by simp only [RepL] at h; simp [h.2]
  | d :: ds, _, _, h => by
    simp only [RepL] at h
    obtain ⟨B₁, B₂, v, vs', _, rfl, _, h2⟩ := h
    simp [RepL.length h2]

mutual
/-- What a reading leans on: the blocks that are owned, and those that nobody writes. -/
theorem Rep.frame {w w' : World} {I I' : Nat → Prop} {hdr : Nat → Option Value} (hI : ∀ b, I b → I' b) (hw : ∀ b, I b → w'.heap[b]? = w.heap[b]?) :
    ∀ (d : AV) (B : List Nat) (v : Value), (∀ b, b ∈ B → w'.heap[b]? = w.heap[b]?) → Rep w I hdr d B v → Rep w' I' hdr d B v
  | .junk, _, _, _, h => by simpa only [Rep] using h
  | .val x, _, _, _, h => by simpa only [Rep] using h
  | .agg l, B, v, hB, h => by
    simp only [Rep] at h ⊢
    obtain ⟨cs, e, h⟩ := h
    exact ⟨cs, e, RepL.frame hI hw l B _ hB h⟩
  | .tup l, B, v, hB, h => by
    simp only [Rep] at h ⊢
    obtain ⟨cs, e, h⟩ := h
    exact ⟨cs, e, RepL.frame hI hw l B _ hB h⟩
  | .fno f l, B, v, hB, h => by
    simp only [Rep] at h ⊢
    obtain ⟨cs, e, h⟩ := h
    exact ⟨cs, e, RepL.frame hI hw l B _ hB h⟩
  | .sl sz nn l, B, v, hB, h => by
    simp only [Rep] at h ⊢
    obtain ⟨e, h⟩ := h
    refine ⟨e, h.imp id ?_⟩
    rintro ⟨a, n, c, us, hv, hn, hc, hi, hcells, hr⟩
    refine ⟨a, n, c, us, hv, hn, hc, fun hl => hI _ (hi hl), hcells.frame fun hus => hw _ (hi ?_), RepL.frame hI hw l [] us (fun _ hb => by cases hb) hr⟩
    intro e'
    have := hr.length
    rw [e'] at this
    exact hus (by simpa using this)
  | .ip l, B, v, hB, h => by
    simp only [Rep] at h ⊢
    obtain ⟨e, a, us, hv, hi, hcells, hr⟩ := h
    exact ⟨e, a, us, hv, hI _ hi, hcells.frame fun _ => hw _ hi, RepL.frame hI hw l [] us (fun _ hb => by cases hb) hr⟩
  | .fn f caps, B, v, hB, h => by
    simp only [Rep] at h ⊢
    obtain ⟨e, cs, hv, hr⟩ := h
    exact ⟨e, cs, hv, RepL.frame hI hw caps [] _ (fun _ hb => by cases hb) hr⟩
  | .fb f caps, B, v, hB, h => by
    simp only [Rep] at h ⊢
    obtain ⟨e, cs, hv, hr⟩ := h
    exact ⟨e, cs, hv, RepL.frame hI hw caps [] _ (fun _ hb => by cases hb) hr⟩
  | .own sz nn l, B, v, hB, h => by
    simp only [Rep] at h ⊢
    refine h.imp id ?_
    rintro ⟨b, n, c, C, ty, B', hv, rfl, hh, hn, hc, hC, hr⟩
    exact ⟨b, n, c, C, ty, B', hv, rfl, hh.frame (hB b (by simp)), hn, hc, hC, RepL.frame hI hw l B' _ (fun x hx => hB x (by simp [hx])) hr⟩
  | .box l, B, v, hB, h => by
    simp only [Rep] at h ⊢
    obtain ⟨b, C, ty, B', hv, rfl, hh, hr⟩ := h
    exact ⟨b, C, ty, B', hv, rfl, hh.frame (hB b (by simp)), RepL.frame hI hw l B' _ (fun x hx => hB x (by simp [hx])) hr⟩
  | .mp es, B, v, hB, h => by
    simp only [Rep] at h ⊢
    obtain ⟨b, ents, clock, B', hv, rfl, hh, hr⟩ := h
    exact ⟨b, ents, clock, B', hv, rfl, by rw [hB b (by simp)]; exact hh, RepM.frame hI hw es B' _ (fun x hx => hB x (by simp [hx])) hr⟩
  | .opw sz l, B, v, hB, h => by
    simp only [Rep] at h ⊢
    obtain ⟨b, n, c, C, ty, B', hv, rfl, hh, hn, hc, hC, hr⟩ := h
    exact ⟨b, n, c, C, ty, B', hv, rfl, hh.frame (hB b (by simp)), hn, hc, hC, RepL.frame hI hw l B' _ (fun x hx => hB x (by simp [hx])) hr⟩
  | .ref nm, _, _, _, h => by simpa only [Rep] using h
  | .pt nm off, _, _, _, h => by simpa only [Rep] using h
  | .sfx nm off, _, _, _, h => by simpa only [Rep] using h
  | .pfx nm k, _, _, _, h => by simpa only [Rep] using h
theorem RepL.frame {w w' : World} {I I' : Nat → Prop} {hdr : Nat → Option Value} (hI : ∀ b, I b → I' b) (hw : ∀ b, I b → w'.heap[b]? = w.heap[b]?) :
    ∀ (l : List AV) (B : List Nat) (vs : List Value), (∀ b, b ∈ B → w'.heap[b]? = w.heap[b]?) → RepL w I hdr l B vs → RepL w' I' hdr l B vs
  | [], _, _, _, h => by simpa only [RepL] using h
  | d :: ds, B, vs, hB, h => by
    simp only [RepL] at h ⊢
    obtain ⟨B₁, B₂, v, vs', rfl, rfl, h1, h2⟩ := h
    exact ⟨B₁, B₂, v, vs', rfl, rfl, Rep.frame hI hw d B₁ v (fun b hb => hB b (by simp [hb])) h1, RepL.frame hI hw ds B₂ vs' (fun b hb => hB b (by simp [hb])) h2⟩
theorem RepM.frame {w w' : World} {I I' : Nat → Prop} (hI : ∀ b, I b → I' b) (hw : ∀ b, I b → w'.heap[b]? = w.heap[b]?) :
    ∀ (l : List (Value × AV)) (B : List Nat) (vs : List MapEntry), (∀ b, b ∈ B → w'.heap[b]? = w.heap[b]?) → RepM w I l B vs → RepM w' I' l B vs
  | [], _, _, _, h => by simpa only [RepM] using h
  | (k, d) :: ds, B, vs, hB, h => by
    simp only [RepM] at h ⊢
    obtain ⟨B₁, B₂, v, vs', rfl, rfl, hk, h1, h2⟩ := h
    exact ⟨B₁, B₂, v, vs', rfl, rfl, hk, Rep.frame hI hw d B₁ v.val (fun b hb => hB b (by simp [hb])) h1, RepM.frame hI hw ds B₂ vs' (fun b hb => hB b (by simp [hb])) h2⟩
end

mutual
/-- Owned blocks lie in the heap. -/
theorem Rep.lt {w : World} {I : Nat → Prop} {hdr : Nat → Option Value} : ∀ (d : AV) (B : List Nat) (v : Value), Rep w I hdr d B v → ∀ b, b ∈ B → b < w.heap.size
  | .junk, _, _, h, b, hb => by simp only [Rep] at h; rw [h] at hb; cases hb
  | .val x, _, _, h, b, hb => by simp only [Rep] at h; rw [h.1] at hb; cases hb
  | .agg l, B, v, h, b, hb => by
    simp only [Rep] at h
    obtain ⟨cs, e, h⟩ := h
    exact RepL.lt l B _ h b hb
  | .tup l, B, v, h, b, hb => by
    simp only [Rep] at h
    obtain ⟨cs, e, h⟩ := h
    exact RepL.lt l B _ h b hb
  | .fno f l, B, v, h, b, hb => by
    simp only [Rep] at h
    obtain ⟨cs, e, h⟩ := h
    exact RepL.lt l B _ h b hb
  | .sl sz nn l, B, v, h, b, hb => by simp only [Rep] at h; rw [h.1] at hb; cases hb
  | .ip l, B, v, h, b, hb => by simp only [Rep] at h; rw [h.1] at hb; cases hb
  | .fn f caps, B, v, h, b, hb => by simp only [Rep] at h; rw [h.1] at hb; cases hb
  | .fb f caps, B, v, h, b, hb => by simp only [Rep] at h; rw [h.1] at hb; cases hb
  | .own sz nn l, B, v, h, b, hb => by
    simp only [Rep] at h
    rcases h with ⟨_, _, _, rfl⟩ | ⟨b', n, c, C, ty, B', hv, rfl, hh, _, _, _, hr⟩
    · cases hb
    · rcases List.mem_cons.1 hb with rfl | hb
      · exact hh.lt
      · exact RepL.lt l B' _ hr b hb
  | .box l, B, v, h, b, hb => by
    simp only [Rep] at h
    obtain ⟨b', C, ty, B', hv, rfl, hh, hr⟩ := h
    rcases List.mem_cons.1 hb with rfl | hb
    · exact hh.lt
    · exact RepL.lt l B' _ hr b hb
  | .mp es, B, v, h, b, hb => by
    simp only [Rep] at h
    obtain ⟨b', ents, clock, B', hv, rfl, hh, hr⟩ := h
    rcases List.mem_cons.1 hb with rfl | hb
    · exact (Array.getElem?_eq_some_iff.1 hh).1
    · exact RepM.lt es B' _ hr b hb
  | .opw sz l, B, v, h, b, hb => by
    simp only [Rep] at h
    obtain ⟨b', n, c, C, ty, B', hv, rfl, hh, _, _, _, hr⟩ := h
    rcases List.mem_cons.1 hb with rfl | hb
    · exact hh.lt
    · exact RepL.lt l B' _ hr b hb
  | .ref nm, _, _, h, b, hb => by simp only [Rep] at h; rw [h.1] at hb; cases hb
  | .pt nm off, _, _, h, b, hb => by simp only [Rep] at h; rw [h.1] at hb; cases hb
  | .sfx nm off, _, _, h, b, hb => by simp only [Rep] at h; rw [h.1] at hb; cases hb
  | .pfx nm k, _, _, h, b, hb => by simp only [Rep] at h; rw [h.1] at hb; cases hb
theorem RepL.lt {w : World} {I : Nat → Prop} {hdr : Nat → Option Value} : ∀ (l : List AV) (B : List Nat) (vs : List Value), RepL w I hdr l B vs → ∀ b, b ∈ B → b < w.heap.size
  | [], _, _, h, b, hb => by simp only [RepL] at h; rw [h.1] at hb; cases hb
  | d :: ds, B, vs, h, b, hb => by
    simp only [RepL] at h
    obtain ⟨B₁, B₂, v, vs', rfl, rfl, h1, h2⟩ := h
    rcases List.mem_append.1 hb with hb | hb
    · exact Rep.lt d B₁ v h1 b hb
    · exact RepL.lt ds B₂ vs' h2 b hb
theorem RepM.lt {w : World} {I : Nat → Prop} : ∀ (l : List (Value × AV)) (B : List Nat) (vs : List MapEntry), RepM w I l B vs → ∀ b, b ∈ B → b < w.heap.size
  | [], _, _, h, b, hb => by simp only [RepM] at h; rw [h.1] at hb; cases hb
  | (k, d) :: ds, B, vs, h, b, hb => by
    simp only [RepM] at h
    obtain ⟨B₁, B₂, v, vs', rfl, rfl, hk, h1, h2⟩ := h
    rcases List.mem_append.1 hb with hb | hb
    · exact Rep.lt d B₁ v.val h1 b hb
    · exact RepM.lt ds B₂ vs' h2 b hb
end
theorem RepM.length {w : World} {I : Nat → Prop} : ∀ {l : List (Value × AV)} {B : List Nat} {vs : List MapEntry}, RepM w I l B vs → vs.length = l.length
  | [], _, _, h => by
    simp only [RepM] at h
    simp [h.2]
  | (k, d) :: ds, B, vs, h => by
    simp only [RepM] at h
    obtain ⟨_, _, v, vs', _, rfl, _, _, h2⟩ := h
    simp [h2.length]

mutual
/-- The same to a reader who only looks: owned nodes as slices and pointers that nobody writes. -/
def view : AV → AV
  | .own sz nn l => .sl sz nn (viewL l)
  | .box l => .ip (viewL l)
  | .agg l => .agg (viewL l)
  | .tup l => .tup (viewL l)
  | .fno f l => .fn f (viewL l)
  | .mp _ => .junk
  | .opw _ _ => .junk
  | .junk => .junk
  | .val v => .val v
  | .sl sz nn l => .sl sz nn l
  | .ip l => .ip l
  | .fn f caps => .fn f caps
  | .fb f caps => .fb f caps
  | .ref nm => .ref nm
  | .pt nm off => .pt nm off
  | .sfx nm off => .sfx nm off
  | .pfx nm k => .pfx nm k
def viewL : List AV → List AV
  | [] => []
  | d :: ds => view d :: viewL ds
end

theorem viewL_eq (l : List AV) : viewL l = l.map view := by
  induction l with
  | nil => rfl
  | cons d ds ih => simp [viewL, ih]

theorem viewL_length (l : List AV) : (viewL l).length = l.length := by rw [viewL_eq, List.length_map]

theorem cell_of_block {w : World} {b : Nat} {C : Array Value} {ty : TypeId} {fz : Nat × Nat} (h : w.heap[b]? = some (.cells C ty fz)) (i : Nat) :
    w.cell? ((⟨b, 0, none⟩ : Addr).add i) = C[i]? := by
  unfold World.cell? Addr.add
  by_cases hi : i = 0
  · subst hi; simp [h]
  · simp [hi, h]

theorem cellsAt_take {w : World} {b : Nat} {C : Array Value} {ty : TypeId} (h0 : Row w b C ty) (n : Nat) :
    CellsAt w ⟨b, 0, none⟩ (C.toList.take n) := by
  intro i u hu
  obtain ⟨z, h, _⟩ := h0
  rw [cell_of_block h]
  rw [List.getElem?_take] at hu
  split at hu
  · simpa using hu
  · cases hu

mutual
theorem Rep.view {w : World} {I : Nat → Prop} {hdr : Nat → Option Value} (hn : ∀ x, hdr x = none) :
    ∀ (d : AV) (B : List Nat) (v : Value) (I' : Nat → Prop), (∀ b, I b → I' b) → (∀ b, b ∈ B → I' b) → Rep w I hdr d B v → Rep w I' (fun _ => none) (view d) [] v
  | .junk, _, _, I', hI, hB, h => by simp [AM.view, Rep]
  | .val x, _, _, I', hI, hB, h => by simp only [AM.view, Rep] at h ⊢; exact ⟨trivial, h.2⟩
  | .agg l, B, v, I', hI, hB, h => by
    simp only [AM.view, Rep] at h ⊢
    obtain ⟨cs, e, h⟩ := h
    exact ⟨cs, e, RepL.view hn l B _ I' hI hB h⟩
  | .tup l, B, v, I', hI, hB, h => by
    simp only [AM.view, Rep] at h ⊢
    obtain ⟨cs, e, h⟩ := h
    exact ⟨cs, e, RepL.view hn l B _ I' hI hB h⟩
  | .fno f l, B, v, I', hI, hB, h => by
    simp only [AM.view, Rep] at h ⊢
    obtain ⟨cs, e, h⟩ := h
    exact ⟨trivial, cs, e, RepL.view hn l B _ I' hI hB h⟩
  | .sl sz nn l, B, v, I', hI, hB, h => by
    simp only [AM.view]
    have := Rep.frame (hdr := fun _ => none) (w' := w) (I' := I') hI (fun _ _ => rfl) (.sl sz nn l) [] v (fun _ _ => rfl)
    simp only [Rep] at h this ⊢
    exact this ⟨trivial, h.2⟩
  | .ip l, B, v, I', hI, hB, h => by
    simp only [AM.view]
    have := Rep.frame (hdr := fun _ => none) (w' := w) (I' := I') hI (fun _ _ => rfl) (.ip l) [] v (fun _ _ => rfl)
    simp only [Rep] at h this ⊢
    exact this ⟨trivial, h.2⟩
  | .fn f caps, B, v, I', hI, hB, h => by
    simp only [AM.view]
    have := Rep.frame (hdr := fun _ => none) (w' := w) (I' := I') hI (fun _ _ => rfl) (.fn f caps) [] v (fun _ _ => rfl)
    simp only [Rep] at h this ⊢
    exact this ⟨trivial, h.2⟩
  | .fb f caps, B, v, I', hI, hB, h => by
    simp only [AM.view]
    have := Rep.frame (hdr := fun _ => none) (w' := w) (I' := I') hI (fun _ _ => rfl) (.fb f caps) [] v (fun _ _ => rfl)
    simp only [Rep] at h this ⊢
    exact this ⟨trivial, h.2⟩
  | .own sz nn l, B, v, I', hI, hB, h => by
    simp only [AM.view, Rep] at h ⊢
    refine ⟨trivial, ?_⟩
    rcases h with ⟨e, rfl, rfl, rfl⟩ | ⟨b, n, c, C, ty, B', hv, rfl, hh, hsz, hc, hC, hr⟩
    · exact .inl ⟨e, by simp [viewL], rfl⟩
    · refine .inr ⟨⟨b, 0, none⟩, n, c, _, hv, by rw [viewL_length]; exact hsz, hc, fun _ => hB b (by simp), cellsAt_take hh l.length, ?_⟩
      exact RepL.view (fun _ => rfl) l B' _ I' hI (fun x hx => hB x (by simp [hx])) hr
  | .box l, B, v, I', hI, hB, h => by
    simp only [AM.view, Rep] at h ⊢
    obtain ⟨b, C, ty, B', hv, rfl, hh, hr⟩ := h
    refine ⟨trivial, ⟨b, 0, none⟩, _, hv, hB b (by simp), cellsAt_take hh C.toList.length, ?_⟩
    rw [List.take_length]
    exact RepL.view hn l B' _ I' hI (fun x hx => hB x (by simp [hx])) hr
  | .mp es, B, v, I', hI, hB, h => by simp [AM.view, Rep]
  | .opw sz l, B, v, I', hI, hB, h => by simp [AM.view, Rep]
  | .ref nm, _, _, I', hI, hB, h => by simp only [Rep] at h; rw [hn] at h; cases h.2
  | .pt nm off, _, _, I', hI, hB, h => by
    simp only [Rep] at h
    obtain ⟨_, x, a, h, _⟩ := h
    rw [hn] at h; cases h
  | .sfx nm off, _, _, I', hI, hB, h => by
    simp only [Rep] at h
    obtain ⟨_, x, a, c, h, _⟩ := h
    rw [hn] at h; cases h
  | .pfx nm k, _, _, I', hI, hB, h => by
    simp only [Rep] at h
    obtain ⟨_, x, a, c, h, _⟩ := h
    rw [hn] at h; cases h
theorem RepL.view {w : World} {I : Nat → Prop} {hdr : Nat → Option Value} (hn : ∀ x, hdr x = none) :
    ∀ (l : List AV) (B : List Nat) (vs : List Value) (I' : Nat → Prop), (∀ b, I b → I' b) → (∀ b, b ∈ B → I' b) → RepL w I hdr l B vs → RepL w I' (fun _ => none) (viewL l) [] vs
  | [], _, _, I', hI, hB, h => by simp only [RepL, viewL] at h ⊢; exact ⟨trivial, h.2⟩
  | d :: ds, B, vs, I', hI, hB, h => by
    simp only [RepL, viewL] at h ⊢
    obtain ⟨B₁, B₂, v, vs', rfl, rfl, h1, h2⟩ := h
    exact ⟨[], [], v, vs', rfl, rfl, Rep.view hn d B₁ v I' hI (fun b hb => hB b (by simp [hb])) h1, RepL.view hn ds B₂ vs' I' hI (fun b hb => hB b (by simp [hb])) h2⟩
end

end Go.AM
