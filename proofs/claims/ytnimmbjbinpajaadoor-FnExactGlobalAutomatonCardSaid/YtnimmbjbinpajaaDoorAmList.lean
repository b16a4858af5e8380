/-
  The abstract machine: lists of numbers as cells, and other small words.
-/
import Derived.Test.YtnimmbjbinpajaaDoorAmTac
namespace Go.AM

def ints (l : List Int) : List AV := l.map iv
@[simp] theorem ints_length (l : List Int) : (ints l).length = l.length := by simp [ints]
@[simp] theorem ints_nil : ints [] = [] := rfl
theorem ints_cons (x : Int) (l : List Int) : ints (x :: l) = iv x :: ints l := rfl
theorem ints_append (l m : List Int) : ints (l ++ m) = ints l ++ ints m := by simp [ints]
theorem ints_drop (l : List Int) (n : Nat) : (ints l).drop n = ints (l.drop n) := by simp [ints, List.map_drop]
theorem ints_take (l : List Int) (n : Nat) : (ints l).take n = ints (l.take n) := by simp [ints, List.map_take]
theorem ints_getD (l : List Int) (n : Nat) (h : n < l.length) : (ints l).getD n .junk = iv (l.getD n 0) := by
  rw [List.getD_eq_getElem?_getD, List.getD_eq_getElem?_getD, ints, List.getElem?_map, List.getElem?_eq_getElem h]; rfl
@[simp] theorem ints_getElem? (l : List Int) (n : Nat) : (ints l)[n]? = (l[n]?).map iv := by simp [ints]
@[simp] theorem ints_getElem (l : List Int) (n : Nat) (h : n < (ints l).length) : (ints l)[n] = iv (l[n]'(by simpa using h)) := by simp [ints]
/-- One cell at a place. -/
theorem ints_window (l : List Int) (n : Nat) (h : n < l.length) : ((ints l).drop n).take 1 = [iv (l.getD n 0)] := by
  rw [ints_drop, ints_take, List.getD_eq_getElem?_getD, List.getElem?_eq_getElem h, List.drop_eq_getElem_cons h]; rfl
@[simp ↓ high] theorem ints_cpy (l : List Int) : (ints l).all cpy = true := by simp [ints, cpy]
@[simp ↓ high] theorem ints_one (l : List Int) : (ints l).all one = true := by simp [ints, one, Value.oneCell']
@[simp] theorem ints_nrf (l : List Int) : nrfL (ints l) = true := by
  induction l with
  | nil => rfl
  | cons x l ih => simp [ints_cons, nrfL, nrf, ih]
@[simp] theorem ints_pur (l : List Int) : purL (ints l) = true := by
  induction l with
  | nil => rfl
  | cons x l ih => simp [ints_cons, purL, pur, ih]
@[simp] theorem ints_view (l : List Int) : viewL (ints l) = ints l := by
  induction l with
  | nil => rfl
  | cons x l ih => simp [ints_cons, viewL, view, ih]
theorem ints_inj {l m : List Int} (h : ints l = ints m) : l = m := by
  induction l generalizing m with
  | nil => cases m with
    | nil => rfl
    | cons y m => simp [ints_cons] at h
  | cons x l ih => cases m with
    | nil => simp [ints_cons] at h
    | cons y m =>
      simp only [ints_cons, List.cons.injEq, AV.val.injEq, Value.int.injEq, true_and] at h
      rw [h.1, ih h.2]
theorem wrap_id (n : Int) (h0 : -9223372036854775808 ≤ n) (h1 : n ≤ 9223372036854775807) : IntKind.i64.wrap n = n := by
  rw [IntKind.wrap_i64]; omega
theorem wrap_eq {m k : Int} (h : m = k) (hb : -9223372036854775808 ≤ k ∧ k ≤ 9223372036854775807) : IntKind.i64.wrap m = k := by
  rw [h]; exact wrap_id k hb.1 hb.2
theorem getD_at (l : List Int) (k : Nat) (h : k < l.length) : l.getD k 0 = l[k] := by simp [h]
@[simp] theorem lt_min1 (n : Nat) : 0 < min 1 n ↔ 0 < n := by omega
theorem getD_mem {l : List Int} {n : Nat} (h : n < l.length) : l.getD n 0 ∈ l := by
  rw [List.getD_eq_getElem?_getD, List.getElem?_eq_getElem h]; simp
theorem take_succ (l : List Int) (n : Nat) (h : n < l.length) : l.take (n + 1) = l.take n ++ [l.getD n 0] := by
  rw [List.take_succ_eq_append_getElem h, List.getD_eq_getElem?_getD, List.getElem?_eq_getElem h]; rfl

theorem le_val {v v' : Value} (h : v = v') : Le (.val v) (.val v') := by subst h; exact .refl _
theorem le_bool {a b : Bool} (h : a = b) : a = b := h
theorem le_int {a b : Int} (h : a = b) : a = b := h
@[simp] theorem oneCell_int (k : IntKind) (n : Int) : (Value.int k n).oneCell' = true := rfl
@[simp] theorem oneCell_bool (b : Bool) : (Value.bool b).oneCell' = true := rfl
@[simp] theorem oneCell_string (b : ByteArray) : (Value.string b).oneCell' = true := rfl
@[simp] theorem oneCell_slice (a : Option Addr) (n c : Nat) : (Value.slice a n c).oneCell' = true := rfl
@[simp] theorem oneCell_ptr (a : Option Addr) : (Value.pointer a).oneCell' = true := rfl
@[simp] theorem cells_int (k : IntKind) (n : Int) : (Value.int k n).cells = #[.int k n] := rfl
@[simp] theorem cells_bool (b : Bool) : (Value.bool b).cells = #[.bool b] := rfl
@[simp] theorem cells_str (b : ByteArray) : (Value.string b).cells = #[.string b] := rfl
@[simp] theorem cells_slice (a : Option Addr) (n c : Nat) : (Value.slice a n c).cells = #[.slice a n c] := rfl
@[simp] theorem cells_agg (cs : Array Value) : (Value.agg cs).cells = cs := rfl
@[simp] theorem cells_ptr (a : Option Addr) : (Value.pointer a).cells = #[.pointer a] := rfl
theorem set_eq (m : List Int) (k : Nat) (x : Int) (h : k < m.length) : m.take k ++ x :: m.drop (k + 1) = m.set k x := by rw [List.set_eq_take_append_cons_drop, if_pos h]
theorem ints_put (m : List Int) (k : Nat) (x : Int) (h : k < m.length) : List.take k (ints m) ++ iv x :: List.drop (k + 1) (ints m) = ints (m.set k x) := by
  rw [ints_take, ints_drop, ← ints_cons, ← ints_append, set_eq m k x h]
theorem take_set_self (m l : List Int) (k : Nat) (hm : m.length = l.length) (hk : k < l.length) (he : m.take k = l.take k) : (m.set k l[k]).take (k + 1) = l.take (k + 1) := by
  rw [List.take_succ_eq_append_getElem (by simpa using by omega), List.take_succ_eq_append_getElem hk, List.take_set_of_le (by omega), he, List.getElem_set_self]
@[simp] theorem ex1 {α : Type} {p : Prop} {x : α} {q : α → Prop} : (∃ e, (p ∧ x = e) ∧ q e) ↔ p ∧ q x := ⟨fun ⟨_, ⟨h, rfl⟩, k⟩ => ⟨h, k⟩, fun ⟨h, k⟩ => ⟨x, ⟨h, rfl⟩, k⟩⟩
@[simp] theorem ex2 {α : Type} {p p' : Prop} {x : α} {q : α → Prop} : (∃ e, (p ∧ p' ∧ x = e) ∧ q e) ↔ p ∧ p' ∧ q x := ⟨fun ⟨_, ⟨h, h', rfl⟩, k⟩ => ⟨h, h', k⟩, fun ⟨h, h', k⟩ => ⟨x, ⟨h, h', rfl⟩, k⟩⟩
@[simp] theorem ex3 {α : Type} {p p' p'' : Prop} {x : α} {q : α → Prop} : (∃ e, (p ∧ p' ∧ p'' ∧ x = e) ∧ q e) ↔ p ∧ p' ∧ p'' ∧ q x := ⟨fun ⟨_, ⟨h, h', h'', rfl⟩, k⟩ => ⟨h, h', h'', k⟩, fun ⟨h, h', h'', k⟩ => ⟨x, ⟨h, h', h'', rfl⟩, k⟩⟩
@[simp] theorem exc {α β : Type} {A : α → Prop} {f : α → β} {q : β → Prop} : (∃ e, (∃ r, A r ∧ f r = e) ∧ q e) ↔ ∃ r, A r ∧ q (f r) := ⟨fun ⟨_, ⟨r, h, rfl⟩, k⟩ => ⟨r, h, k⟩, fun ⟨r, h, k⟩ => ⟨_, ⟨r, h, rfl⟩, k⟩⟩
@[simp] theorem exc2 {α β : Type} {A : α → Prop} {c : α → Prop} {f : α → β} {q : β → Prop} : (∃ e, (∃ r, A r ∧ c r ∧ f r = e) ∧ q e) ↔ ∃ r, A r ∧ c r ∧ q (f r) := ⟨fun ⟨_, ⟨r, h, h', rfl⟩, k⟩ => ⟨r, h, h', k⟩, fun ⟨r, h, h', k⟩ => ⟨_, ⟨r, h, h', rfl⟩, k⟩⟩
@[simp] theorem replicate_iv (n : Nat) (k : Int) : List.replicate n (AV.val (Value.int IntKind.i64 k)) = ints (List.replicate n k) := by simp [ints]
@[simp] theorem natcast_eq (a b : Nat) : ((a : Int) = (b : Int)) = (a = b) := by apply propext; constructor <;> intro h <;> omega
@[simp] theorem ints_snoc (l : List Int) (x : Int) : ints l ++ [AV.val (.int .i64 x)] = ints (l ++ [x]) := by simp [ints]
@[simp] theorem nilSlice_eq : (Value.slice none 0 0 = nilSlice) = True := eq_true rfl
/-- The number at a place (0 behind the end). -/
def nth (l : List Int) (n : Nat) : Int := l.getD n 0
theorem nth_at {l : List Int} {n : Nat} (h : n < l.length) : nth l n = l[n] := by simp [nth, h]
def oneB (P : Program) (t : TypeId) : Bool := match telem P t with | some e => tok P e && (tsize P e == 1) | none => false
attribute [simp] oneB
theorem idx_ints {P : Program} {st : St} {t : TypeId} {nn : Bool} {l : List Int} {c : IntKind} {i : Int} {k : Eff → Prop} (h : oneB P t = true) :
    indexAddrOp P st t (.sl 1 nn (ints l)) (.val (.int c i)) k = (0 ≤ i ∧ i.toNat < l.length ∧ k { val := .ip [iv (nth l i.toNat)] }) := by
  unfold oneB at h
  split at h
  · rename_i e he
    simp only [Bool.and_eq_true, beq_iff_eq] at h
    unfold indexAddrOp
    simp only [he, slOf2, slOf, h.1, h.2, true_and, Nat.mul_one, ints_length, Nat.lt_add_one]
    refine propext ⟨?_, ?_⟩
    · rintro ⟨h0, h1, h2⟩
      refine ⟨h0, by omega, ?_⟩
      rw [ints_window l _ (by omega)] at h2; exact h2
    · rintro ⟨h0, h1, h2⟩
      refine ⟨h0, by omega, ?_⟩
      rw [ints_window l _ (by omega)]; exact h2
  · cases h
attribute [simp high] idx_ints
theorem aload_ints {P : Program} {t : TypeId} {l : List Int} {off : Nat} {rd : Bool} {K : Eff → Prop} (h : tagg P t = false) : aload P t (ints l) off rd K = (tok P t = true ∧ off < l.length ∧ K { val := iv (nth l off), rd := rd }) := by
  unfold aload
  rw [h]
  simp only [Bool.false_eq_true, if_false, ints_length]
  refine propext ⟨?_, ?_⟩
  · rintro ⟨h0, h1, _, h2⟩
    rw [ints_getD l off h1] at h2; exact ⟨h0, h1, h2⟩
  · rintro ⟨h0, h1, h2⟩
    rw [ints_getD l off h1]; exact ⟨h0, h1, rfl, h2⟩
attribute [simp high] aload_ints
/-! Lists of lists of numbers: rows that nobody writes, rows that are owned. -/
def srows (b : Bool) (rs : List (List Int)) : List AV := rs.map fun r => .sl 1 b (ints r)
def orows (b : Bool) (rs : List (List Int)) : List AV := rs.map fun r => .own 1 b (ints r)
def nthR (rs : List (List Int)) (i : Nat) : List Int := rs.getD i []
theorem nthR_at {rs : List (List Int)} {i : Nat} (h : i < rs.length) : nthR rs i = rs[i] := by simp [nthR, h]
@[simp] theorem srows_length (b : Bool) (rs : List (List Int)) : (srows b rs).length = rs.length := by simp [srows]
@[simp] theorem orows_length (b : Bool) (rs : List (List Int)) : (orows b rs).length = rs.length := by simp [orows]
@[simp] theorem srows_nil (b : Bool) : srows b [] = [] := rfl
@[simp] theorem orows_nil (b : Bool) : orows b [] = [] := rfl
theorem srows_cons (b : Bool) (r : List Int) (rs : List (List Int)) : srows b (r :: rs) = .sl 1 b (ints r) :: srows b rs := rfl
theorem orows_cons (b : Bool) (r : List Int) (rs : List (List Int)) : orows b (r :: rs) = .own 1 b (ints r) :: orows b rs := rfl
@[simp] theorem srows_snoc (b : Bool) (r : List Int) (rs : List (List Int)) : srows b rs ++ [.sl 1 b (ints r)] = srows b (rs ++ [r]) := by simp [srows]
@[simp] theorem orows_snoc (b : Bool) (r : List Int) (rs : List (List Int)) : orows b rs ++ [.own 1 b (ints r)] = orows b (rs ++ [r]) := by simp [orows]
@[simp] theorem srows_nrf (b : Bool) (rs : List (List Int)) : nrfL (srows b rs) = true := by
  induction rs with
  | nil => rfl
  | cons r rs ih => simp [srows_cons, nrfL, nrf, ih]
@[simp] theorem orows_nrf (b : Bool) (rs : List (List Int)) : nrfL (orows b rs) = true := by
  induction rs with
  | nil => rfl
  | cons r rs ih => simp [orows_cons, nrfL, nrf, ih]
@[simp] theorem orows_pur (b : Bool) (rs : List (List Int)) : purL (orows b rs) = true := by
  induction rs with
  | nil => rfl
  | cons r rs ih => simp [orows_cons, purL, pur, ih]
@[simp] theorem orows_view (b : Bool) (rs : List (List Int)) : viewL (orows b rs) = srows b rs := by
  induction rs with
  | nil => rfl
  | cons r rs ih => simp [orows_cons, srows_cons, viewL, view, ih]
@[simp] theorem srows_view (b : Bool) (rs : List (List Int)) : viewL (srows b rs) = srows b rs := by
  induction rs with
  | nil => rfl
  | cons r rs ih => simp [srows_cons, viewL, view, ih]
@[simp ↓ high] theorem srows_cpy (b : Bool) (rs : List (List Int)) : (srows b rs).all cpy = true := by simp [srows, cpy]
@[simp ↓ high] theorem srows_one (b : Bool) (rs : List (List Int)) : (srows b rs).all one = true := by simp [srows, one]
@[simp ↓ high] theorem orows_one (b : Bool) (rs : List (List Int)) : (orows b rs).all one = true := by simp [orows, one]
@[simp ↓ high] theorem srows_nob (b : Bool) (rs : List (List Int)) : (srows b rs).all nob = true := by simp [srows, nob]
@[simp ↓ high] theorem ints_nob (l : List Int) : (ints l).all nob = true := by simp [ints, nob]
theorem srows_window (b : Bool) (rs : List (List Int)) (n : Nat) (h : n < rs.length) : ((srows b rs).drop n).take 1 = [.sl 1 b (ints (nthR rs n))] := by
  rw [srows, ← List.map_drop, ← List.map_take, nthR_at h, List.drop_eq_getElem_cons h]; rfl
theorem srows_getD (b : Bool) (rs : List (List Int)) (n : Nat) (h : n < rs.length) : (srows b rs).getD n .junk = .sl 1 b (ints (nthR rs n)) := by
  rw [List.getD_eq_getElem?_getD, srows, List.getElem?_map, List.getElem?_eq_getElem h, nthR_at h]; rfl
theorem idx_srows {P : Program} {st : St} {t : TypeId} {nn b : Bool} {rs : List (List Int)} {c : IntKind} {i : Int} {k : Eff → Prop} (h : oneB P t = true) :
    indexAddrOp P st t (.sl 1 nn (srows b rs)) (.val (.int c i)) k = (0 ≤ i ∧ i.toNat < rs.length ∧ k { val := .ip [.sl 1 b (ints (nthR rs i.toNat))] }) := by
  unfold oneB at h
  split at h
  · rename_i e he
    simp only [Bool.and_eq_true, beq_iff_eq] at h
    unfold indexAddrOp
    simp only [he, slOf2, slOf, h.1, h.2, true_and, Nat.mul_one, srows_length, Nat.lt_add_one]
    refine propext ⟨?_, ?_⟩
    · rintro ⟨h0, h1, h2⟩
      refine ⟨h0, by omega, ?_⟩
      rw [srows_window b rs _ (by omega)] at h2; exact h2
    · rintro ⟨h0, h1, h2⟩
      refine ⟨h0, by omega, ?_⟩
      rw [srows_window b rs _ (by omega)]; exact h2
  · cases h
attribute [simp high] idx_srows
theorem aload_srows {P : Program} {t : TypeId} {b : Bool} {rs : List (List Int)} {off : Nat} {rd : Bool} {K : Eff → Prop} (h : tagg P t = false) : aload P t (srows b rs) off rd K = (tok P t = true ∧ off < rs.length ∧ K { val := .sl 1 b (ints (nthR rs off)), rd := rd }) := by
  unfold aload
  rw [h]
  simp only [Bool.false_eq_true, if_false, srows_length]
  refine propext ⟨?_, ?_⟩
  · rintro ⟨h0, h1, _, h2⟩
    rw [srows_getD b rs off h1] at h2; exact ⟨h0, h1, h2⟩
  · rintro ⟨h0, h1, h2⟩
    rw [srows_getD b rs off h1]; exact ⟨h0, h1, rfl, h2⟩
attribute [simp high] aload_srows
theorem initA_cons2 (x y : AV) (l : List AV) : initA (x :: y :: l) = x :: initA (y :: l) := rfl
theorem lastA_cons2 (x y : AV) (l : List AV) : lastA (x :: y :: l) = lastA (y :: l) := by simp [lastA, List.getLastD_eq_getLast?]
attribute [simp] initA_cons2 lastA_cons2
@[simp] theorem noRL_app (d : Nat) (l l' : List AV) : noRL d (l ++ l') = (noRL d l && noRL d l') := by
  induction l with
  | nil => simp [noRL]
  | cons x l ih => simp only [List.cons_append, noRL, ih, Bool.and_assoc]
@[simp] theorem orows_noRL (d : Nat) (b : Bool) (rs : List (List Int)) : noRL d (orows b rs) = true := noRL_of_nrfL d _ (orows_nrf b rs)
end Go.AM
