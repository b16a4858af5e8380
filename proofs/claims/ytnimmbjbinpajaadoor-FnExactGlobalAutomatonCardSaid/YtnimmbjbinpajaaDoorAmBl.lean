/-
  The abstract machine: lists of truth values, of bytes, of texts as cells; maps whose keys are texts.
-/
import Derived.Test.YtnimmbjbinpajaaDoorAmList
import Derived.MapKept
set_option linter.unusedSimpArgs false
namespace Go.AM
/-- A text by its bytes. -/
def strU (l : List UInt8) : ByteArray := ⟨l.toArray⟩
theorem strU_inj {a b : List UInt8} (h : strU a = strU b) : a = b := by
  have := congrArg (fun s : ByteArray => s.data.toList) h
  simpa [strU] using this
@[simp] theorem strU_eq (a b : List UInt8) : (strU a = strU b) = (a = b) := propext ⟨strU_inj, fun h => by rw [h]⟩
@[simp] theorem strU_size (l : List UInt8) : (strU l).size = l.length := by simp [strU, ByteArray.size]
@[simp] theorem strU_list (l : List UInt8) : (strU l).data.toList = l := by simp [strU]
/-- A number as a byte. -/
def u8 (x : Int) : UInt8 := UInt8.ofNat (IntKind.u8.wrap x).toNat

/-! Truth values. -/
def bls (l : List Bool) : List AV := l.map fun x => AV.val (.bool x)
def bAt (l : List Bool) (n : Nat) : Bool := l.getD n false
theorem bAt_at {l : List Bool} {n : Nat} (h : n < l.length) : bAt l n = l[n] := by simp [bAt, h]
@[simp] theorem bls_length (l : List Bool) : (bls l).length = l.length := by simp [bls]
@[simp] theorem bls_nil : bls [] = [] := rfl
theorem bls_cons (x : Bool) (l : List Bool) : bls (x :: l) = AV.val (.bool x) :: bls l := rfl
theorem bls_append (l m : List Bool) : bls (l ++ m) = bls l ++ bls m := by simp [bls]
theorem bls_drop (l : List Bool) (n : Nat) : (bls l).drop n = bls (l.drop n) := by simp [bls, List.map_drop]
theorem bls_take (l : List Bool) (n : Nat) : (bls l).take n = bls (l.take n) := by simp [bls, List.map_take]
theorem bls_getD (l : List Bool) (n : Nat) (h : n < l.length) : (bls l).getD n .junk = AV.val (.bool (bAt l n)) := by
  rw [List.getD_eq_getElem?_getD, bls, List.getElem?_map, List.getElem?_eq_getElem h, bAt_at h]; rfl
theorem bls_window (l : List Bool) (n : Nat) (h : n < l.length) : ((bls l).drop n).take 1 = [AV.val (.bool (bAt l n))] := by
  rw [bls_drop, bls_take, bAt_at h, List.drop_eq_getElem_cons h]; rfl
@[simp ↓ high] theorem bls_cpy (l : List Bool) : (bls l).all cpy = true := by simp [bls, cpy]
@[simp ↓ high] theorem bls_one (l : List Bool) : (bls l).all one = true := by simp [bls, one, Value.oneCell']
@[simp ↓ high] theorem bls_nob (l : List Bool) : (bls l).all nob = true := by simp [bls, nob]
@[simp] theorem bls_nrf (l : List Bool) : nrfL (bls l) = true := by
  induction l with
  | nil => rfl
  | cons x l ih => simp [bls_cons, nrfL, nrf, ih]
@[simp] theorem bls_pur (l : List Bool) : purL (bls l) = true := by
  induction l with
  | nil => rfl
  | cons x l ih => simp [bls_cons, purL, pur, ih]
@[simp] theorem bls_view (l : List Bool) : viewL (bls l) = bls l := by
  induction l with
  | nil => rfl
  | cons x l ih => simp [bls_cons, viewL, view, ih]
theorem bls_set (m : List Bool) (k : Nat) (x : Bool) (h : k < m.length) : List.take k (bls m) ++ AV.val (.bool x) :: List.drop (k + 1) (bls m) = bls (m.set k x) := by
  rw [bls_take, bls_drop, ← bls_cons, ← bls_append, List.set_eq_take_append_cons_drop, if_pos h]
@[simp] theorem bls_snoc (l : List Bool) (x : Bool) : bls l ++ [AV.val (.bool x)] = bls (l ++ [x]) := by simp [bls]
theorem idx_bls {P : Program} {st : St} {t : TypeId} {nn : Bool} {l : List Bool} {c : IntKind} {i : Int} {k : Eff → Prop} (h : oneB P t = true) :
    indexAddrOp P st t (.sl 1 nn (bls l)) (.val (.int c i)) k = (0 ≤ i ∧ i.toNat < l.length ∧ k { val := .ip [AV.val (.bool (bAt l i.toNat))] }) := by
  unfold oneB at h
  split at h
  · rename_i e he
    simp only [Bool.and_eq_true, beq_iff_eq] at h
    unfold indexAddrOp
    simp only [he, slOf2, slOf, h.1, h.2, true_and, Nat.mul_one, bls_length, Nat.lt_add_one]
    refine propext ⟨?_, ?_⟩
    · rintro ⟨h0, h1, h2⟩
      refine ⟨h0, by omega, ?_⟩
      rw [bls_window l _ (by omega)] at h2; exact h2
    · rintro ⟨h0, h1, h2⟩
      refine ⟨h0, by omega, ?_⟩
      rw [bls_window l _ (by omega)]; exact h2
  · cases h
attribute [simp high] idx_bls
theorem aload_bls {P : Program} {t : TypeId} {l : List Bool} {off : Nat} {rd : Bool} {K : Eff → Prop} (h : tagg P t = false) : aload P t (bls l) off rd K = (tok P t = true ∧ off < l.length ∧ K { val := AV.val (.bool (bAt l off)), rd := rd }) := by
  unfold aload
  rw [h]
  simp only [Bool.false_eq_true, if_false, bls_length]
  refine propext ⟨?_, ?_⟩
  · rintro ⟨h0, h1, _, h2⟩
    rw [bls_getD l off h1] at h2; exact ⟨h0, h1, h2⟩
  · rintro ⟨h0, h1, h2⟩
    rw [bls_getD l off h1]; exact ⟨h0, h1, rfl, h2⟩
attribute [simp high] aload_bls
@[simp] theorem bls_noRL (d : Nat) (l : List Bool) : noRL d (bls l) = true := noRL_of_nrfL d _ (bls_nrf l)

/-! Bytes. -/
def byU (l : List UInt8) : List AV := l.map fun x => AV.val (.int .u8 (x.toNat : Int))
def uAt (l : List UInt8) (n : Nat) : UInt8 := l.getD n 0
theorem uAt_at {l : List UInt8} {n : Nat} (h : n < l.length) : uAt l n = l[n] := by simp [uAt, h]
@[simp] theorem byU_length (l : List UInt8) : (byU l).length = l.length := by simp [byU]
@[simp] theorem byU_nil : byU [] = [] := rfl
theorem byU_cons (x : UInt8) (l : List UInt8) : byU (x :: l) = AV.val (.int .u8 (x.toNat : Int)) :: byU l := rfl
theorem byU_append (l m : List UInt8) : byU (l ++ m) = byU l ++ byU m := by simp [byU]
theorem byU_drop (l : List UInt8) (n : Nat) : (byU l).drop n = byU (l.drop n) := by simp [byU, List.map_drop]
theorem byU_take (l : List UInt8) (n : Nat) : (byU l).take n = byU (l.take n) := by simp [byU, List.map_take]
theorem byU_getD (l : List UInt8) (n : Nat) (h : n < l.length) : (byU l).getD n .junk = AV.val (.int .u8 ((uAt l n).toNat : Int)) := by
  rw [List.getD_eq_getElem?_getD, byU, List.getElem?_map, List.getElem?_eq_getElem h, uAt_at h]; rfl
theorem byU_window (l : List UInt8) (n : Nat) (h : n < l.length) : ((byU l).drop n).take 1 = [AV.val (.int .u8 ((uAt l n).toNat : Int))] := by
  rw [byU_drop, byU_take, uAt_at h, List.drop_eq_getElem_cons h]; rfl
@[simp ↓ high] theorem byU_cpy (l : List UInt8) : (byU l).all cpy = true := by simp [byU, cpy]
@[simp ↓ high] theorem byU_one (l : List UInt8) : (byU l).all one = true := by simp [byU, one, Value.oneCell']
@[simp ↓ high] theorem byU_nob (l : List UInt8) : (byU l).all nob = true := by simp [byU, nob]
@[simp] theorem byU_nrf (l : List UInt8) : nrfL (byU l) = true := by
  induction l with
  | nil => rfl
  | cons x l ih => simp [byU_cons, nrfL, nrf, ih]
@[simp] theorem byU_pur (l : List UInt8) : purL (byU l) = true := by
  induction l with
  | nil => rfl
  | cons x l ih => simp [byU_cons, purL, pur, ih]
@[simp] theorem byU_view (l : List UInt8) : viewL (byU l) = byU l := by
  induction l with
  | nil => rfl
  | cons x l ih => simp [byU_cons, viewL, view, ih]
theorem byU_set (m : List UInt8) (k : Nat) (x : UInt8) (h : k < m.length) : List.take k (byU m) ++ AV.val (.int .u8 (x.toNat : Int)) :: List.drop (k + 1) (byU m) = byU (m.set k x) := by
  rw [byU_take, byU_drop, ← byU_cons, ← byU_append, List.set_eq_take_append_cons_drop, if_pos h]
@[simp] theorem byU_snoc (l : List UInt8) (x : UInt8) : byU l ++ [AV.val (.int .u8 (x.toNat : Int))] = byU (l ++ [x]) := by simp [byU]
theorem idx_byU {P : Program} {st : St} {t : TypeId} {nn : Bool} {l : List UInt8} {c : IntKind} {i : Int} {k : Eff → Prop} (h : oneB P t = true) :
    indexAddrOp P st t (.sl 1 nn (byU l)) (.val (.int c i)) k = (0 ≤ i ∧ i.toNat < l.length ∧ k { val := .ip [AV.val (.int .u8 ((uAt l i.toNat).toNat : Int))] }) := by
  unfold oneB at h
  split at h
  · rename_i e he
    simp only [Bool.and_eq_true, beq_iff_eq] at h
    unfold indexAddrOp
    simp only [he, slOf2, slOf, h.1, h.2, true_and, Nat.mul_one, byU_length, Nat.lt_add_one]
    refine propext ⟨?_, ?_⟩
    · rintro ⟨h0, h1, h2⟩
      refine ⟨h0, by omega, ?_⟩
      rw [byU_window l _ (by omega)] at h2; exact h2
    · rintro ⟨h0, h1, h2⟩
      refine ⟨h0, by omega, ?_⟩
      rw [byU_window l _ (by omega)]; exact h2
  · cases h
attribute [simp high] idx_byU
theorem aload_byU {P : Program} {t : TypeId} {l : List UInt8} {off : Nat} {rd : Bool} {K : Eff → Prop} (h : tagg P t = false) : aload P t (byU l) off rd K = (tok P t = true ∧ off < l.length ∧ K { val := AV.val (.int .u8 ((uAt l off).toNat : Int)), rd := rd }) := by
  unfold aload
  rw [h]
  simp only [Bool.false_eq_true, if_false, byU_length]
  refine propext ⟨?_, ?_⟩
  · rintro ⟨h0, h1, _, h2⟩
    rw [byU_getD l off h1] at h2; exact ⟨h0, h1, h2⟩
  · rintro ⟨h0, h1, h2⟩
    rw [byU_getD l off h1]; exact ⟨h0, h1, rfl, h2⟩
attribute [simp high] aload_byU
@[simp] theorem byU_noRL (d : Nat) (l : List UInt8) : noRL d (byU l) = true := noRL_of_nrfL d _ (byU_nrf l)

/-! Texts. -/
def txs (l : List (List UInt8)) : List AV := l.map fun x => AV.val (.string (strU x))
def sAt (l : List (List UInt8)) (n : Nat) : (List UInt8) := l.getD n []
theorem sAt_at {l : List (List UInt8)} {n : Nat} (h : n < l.length) : sAt l n = l[n] := by simp [sAt, h]
@[simp] theorem txs_length (l : List (List UInt8)) : (txs l).length = l.length := by simp [txs]
@[simp] theorem txs_nil : txs [] = [] := rfl
theorem txs_cons (x : (List UInt8)) (l : List (List UInt8)) : txs (x :: l) = AV.val (.string (strU x)) :: txs l := rfl
theorem txs_append (l m : List (List UInt8)) : txs (l ++ m) = txs l ++ txs m := by simp [txs]
theorem txs_drop (l : List (List UInt8)) (n : Nat) : (txs l).drop n = txs (l.drop n) := by simp [txs, List.map_drop]
theorem txs_take (l : List (List UInt8)) (n : Nat) : (txs l).take n = txs (l.take n) := by simp [txs, List.map_take]
theorem txs_getD (l : List (List UInt8)) (n : Nat) (h : n < l.length) : (txs l).getD n .junk = AV.val (.string (strU (sAt l n))) := by
  rw [List.getD_eq_getElem?_getD, txs, List.getElem?_map, List.getElem?_eq_getElem h, sAt_at h]; rfl
theorem txs_window (l : List (List UInt8)) (n : Nat) (h : n < l.length) : ((txs l).drop n).take 1 = [AV.val (.string (strU (sAt l n)))] := by
  rw [txs_drop, txs_take, sAt_at h, List.drop_eq_getElem_cons h]; rfl
@[simp ↓ high] theorem txs_cpy (l : List (List UInt8)) : (txs l).all cpy = true := by simp [txs, cpy]
@[simp ↓ high] theorem txs_one (l : List (List UInt8)) : (txs l).all one = true := by simp [txs, one, Value.oneCell']
@[simp ↓ high] theorem txs_nob (l : List (List UInt8)) : (txs l).all nob = true := by simp [txs, nob]
@[simp] theorem txs_nrf (l : List (List UInt8)) : nrfL (txs l) = true := by
  induction l with
  | nil => rfl
  | cons x l ih => simp [txs_cons, nrfL, nrf, ih]
@[simp] theorem txs_pur (l : List (List UInt8)) : purL (txs l) = true := by
  induction l with
  | nil => rfl
  | cons x l ih => simp [txs_cons, purL, pur, ih]
@[simp] theorem txs_view (l : List (List UInt8)) : viewL (txs l) = txs l := by
  induction l with
  | nil => rfl
  | cons x l ih => simp [txs_cons, viewL, view, ih]
theorem txs_set (m : List (List UInt8)) (k : Nat) (x : (List UInt8)) (h : k < m.length) : List.take k (txs m) ++ AV.val (.string (strU x)) :: List.drop (k + 1) (txs m) = txs (m.set k x) := by
  rw [txs_take, txs_drop, ← txs_cons, ← txs_append, List.set_eq_take_append_cons_drop, if_pos h]
@[simp] theorem txs_snoc (l : List (List UInt8)) (x : (List UInt8)) : txs l ++ [AV.val (.string (strU x))] = txs (l ++ [x]) := by simp [txs]
theorem idx_txs {P : Program} {st : St} {t : TypeId} {nn : Bool} {l : List (List UInt8)} {c : IntKind} {i : Int} {k : Eff → Prop} (h : oneB P t = true) :
    indexAddrOp P st t (.sl 1 nn (txs l)) (.val (.int c i)) k = (0 ≤ i ∧ i.toNat < l.length ∧ k { val := .ip [AV.val (.string (strU (sAt l i.toNat)))] }) := by
  unfold oneB at h
  split at h
  · rename_i e he
    simp only [Bool.and_eq_true, beq_iff_eq] at h
    unfold indexAddrOp
    simp only [he, slOf2, slOf, h.1, h.2, true_and, Nat.mul_one, txs_length, Nat.lt_add_one]
    refine propext ⟨?_, ?_⟩
    · rintro ⟨h0, h1, h2⟩
      refine ⟨h0, by omega, ?_⟩
      rw [txs_window l _ (by omega)] at h2; exact h2
    · rintro ⟨h0, h1, h2⟩
      refine ⟨h0, by omega, ?_⟩
      rw [txs_window l _ (by omega)]; exact h2
  · cases h
attribute [simp high] idx_txs
theorem aload_txs {P : Program} {t : TypeId} {l : List (List UInt8)} {off : Nat} {rd : Bool} {K : Eff → Prop} (h : tagg P t = false) : aload P t (txs l) off rd K = (tok P t = true ∧ off < l.length ∧ K { val := AV.val (.string (strU (sAt l off))), rd := rd }) := by
  unfold aload
  rw [h]
  simp only [Bool.false_eq_true, if_false, txs_length]
  refine propext ⟨?_, ?_⟩
  · rintro ⟨h0, h1, _, h2⟩
    rw [txs_getD l off h1] at h2; exact ⟨h0, h1, h2⟩
  · rintro ⟨h0, h1, h2⟩
    rw [txs_getD l off h1]; exact ⟨h0, h1, rfl, h2⟩
attribute [simp high] aload_txs
@[simp] theorem txs_noRL (d : Nat) (l : List (List UInt8)) : noRL d (txs l) = true := noRL_of_nrfL d _ (txs_nrf l)

theorem wrap_u8 (x : Int) : IntKind.u8.wrap x = x % 256 := by
  simp [IntKind.wrap, IntKind.signed, IntKind.bits]
theorem u8_toNat (x : Int) : ((u8 x).toNat : Int) = IntKind.u8.wrap x := by
  unfold u8
  rw [wrap_u8, UInt8.toNat_ofNat']
  omega
theorem u8_id (b : UInt8) : u8 (b.toNat : Int) = b := by
  apply UInt8.toNat_inj.1
  have := u8_toNat (b.toNat : Int)
  rw [wrap_u8] at this
  have h := b.toNat_lt
  omega
@[simp] theorem byU_snocw (l : List UInt8) (x : Int) : byU l ++ [AV.val (.int .u8 (IntKind.u8.wrap x))] = byU (l ++ [u8 x]) := by
  rw [← u8_toNat, byU_snoc]
@[simp] theorem byU_two (l : List UInt8) (x y : Int) : byU l ++ [AV.val (.int .u8 (IntKind.u8.wrap x)), AV.val (.int .u8 (IntKind.u8.wrap y))] = byU (l ++ [u8 x, u8 y]) := by
  rw [← u8_toNat, ← u8_toNat]; simp [byU]
theorem byU_setw (m : List UInt8) (k : Nat) (x : Int) (h : k < m.length) : List.take k (byU m) ++ AV.val (.int .u8 (IntKind.u8.wrap x)) :: List.drop (k + 1) (byU m) = byU (m.set k (u8 x)) := by
  rw [← u8_toNat, byU_set m k _ h]
@[simp] theorem byteL_byU (l : List UInt8) : byteL (byU l) = some l := by
  induction l with
  | nil => rfl
  | cons x l ih =>
    have h := x.toNat_lt
    rw [byU_cons, byteL, if_pos (by omega), ih]
    simp
theorem conv_byU {P : Program} {st : St} {d : Option Nat} {t t' : TypeId} {nn : Bool} {l : List UInt8} {k : Eff → Prop} : convOp P st d t t' (.sl 1 nn (byU l)) k = convB P st t t' (.sl 1 nn (byU l)) k := Eq.trans rfl rfl
theorem conv_ref {P : Program} {st : St} {d : Option Nat} {t t' : TypeId} {nm : Nat} {k : Eff → Prop} : convOp P st d t t' (.ref nm) k = convB P st t t' (.ref nm) k := Eq.trans rfl rfl
theorem conv_str {P : Program} {st : St} {d : Option Nat} {t t' : TypeId} {l : List UInt8} {k : Eff → Prop} : convOp P st d t t' (.val (.string (strU l))) k = convS P d t t' (strU l) k := Eq.trans rfl rfl
theorem convS_eq {P : Program} {d : Nat} {t t' : TypeId} {l : List UInt8} {k : Eff → Prop} : convS P (some d) t t' (strU l) k = (match telem P t' with
  | some e => tok P t = true ∧ tint P e = some .u8 ∧ k { val := .ref d, news := [(d, .own 1 true (byU l))] }
  | none => False) := by
  unfold convS
  cases telem P t' with
  | none => rfl
  | some e => simp only [strU_list]; rfl
theorem convB_eq {P : Program} {st : St} {t t' : TypeId} {x : AV} {k : Eff → Prop} : convB P st t t' x k = (match slOf st x, telem P t with
  | some (sz, _, l, _), some e => sz = 1 ∧ tint P e = some .u8 ∧ tstr P t' = true ∧ (match byteL l with
    | some bs => k { val := .val (.string (strU bs)), rd := true }
    | none => False)
  | _, _ => False) := Eq.trans rfl rfl
attribute [simp] conv_byU conv_ref conv_str convS_eq convB_eq
@[simp] theorem replicate_bv (n : Nat) (b : Bool) : List.replicate n (AV.val (Value.bool b)) = bls (List.replicate n b) := by simp [bls]
@[simp] theorem replicate_by (n : Nat) : List.replicate n (AV.val (Value.int .u8 0)) = byU (List.replicate n 0) := by simp [byU]
/-! A map whose keys are texts. -/
def mS (ps : List (List UInt8 × Value)) : List (Value × AV) := ps.map fun p => (Value.string (strU p.1), AV.val p.2)
def putS (z : List UInt8) (v : Value) : List (List UInt8 × Value) → List (List UInt8 × Value)
  | [] => [(z, v)]
  | (k, u) :: ps => if z = k then (z, v) :: ps else (k, u) :: putS z v ps
theorem mS_nil : mS [] = [] := rfl
@[simp] theorem mS_length (ps : List (List UInt8 × Value)) : (mS ps).length = ps.length := by simp [mS]
theorem strU_beq (a b : List UInt8) : (strU a == strU b) = (a == b) := by
  rw [Bool.eq_iff_iff, MapKept.bytes_beq, beq_iff_eq, strU_eq]
theorem mpFind_mS (z : List UInt8) (ps : List (List UInt8 × Value)) : mpFind .string (.string (strU z)) (mS ps) = some ((ps.lookup z).map AV.val) := by
  induction ps with
  | nil => rfl
  | cons p ps ih =>
    obtain ⟨k, u⟩ := p
    simp only [mS, List.map_cons, mpFind, Instr.sameNow, List.lookup_cons, strU_beq]
    cases h : z == k
    · exact ih
    · rfl
theorem mpPut_mS (z : List UInt8) (v : Value) (ps : List (List UInt8 × Value)) : mpPut .string (.string (strU z)) (.val v) (mS ps) = some (mS (putS z v ps)) := by
  induction ps with
  | nil => rfl
  | cons p ps ih =>
    obtain ⟨k, u⟩ := p
    simp only [mS, List.map_cons, mpPut, Instr.sameNow, putS, strU_beq]
    by_cases h : z = k
    · simp [h]
    · have : (z == k) = false := by simpa using h
      simp only [this]
      rw [show List.map (fun p : List UInt8 × Value => (Value.string (strU p.1), AV.val p.2)) ps = mS ps from rfl, ih]
      simp [h, mS]
theorem lookup_putS (z y : List UInt8) (v : Value) (ps : List (List UInt8 × Value)) : (putS z v ps).lookup y = if y = z then some v else ps.lookup y := by
  induction ps with
  | nil =>
    simp only [putS, List.lookup_cons, List.lookup_nil]
    by_cases h : y = z
    · subst h; simp
    · have : (y == z) = false := by simpa using h
      simp [this, h]
  | cons p ps ih =>
    obtain ⟨k, u⟩ := p
    simp only [putS]
    by_cases h : z = k
    · subst h
      simp only [if_true, List.lookup_cons]
      by_cases h2 : y = z
      · subst h2; simp
      · have : (y == z) = false := by simpa using h2
        simp [this, h2]
    · simp only [h, if_false, List.lookup_cons, ih]
      by_cases h2 : y = k
      · subst h2
        have : y ≠ z := fun e => h e.symm
        simp [this]
      · have : (y == k) = false := by simpa using h2
        simp [this]
theorem putS_len {z : List UInt8} {u : Value} : ∀ {m : List (List UInt8 × Value)}, m.lookup z = none → (putS z u m).length = m.length + 1
  | [], _ => rfl
  | (k, x) :: m, h => by
    rw [List.lookup_cons] at h
    split at h
    · cases h
    · rename_i e
      have : z ≠ k := by simpa using e
      simp [putS, this, putS_len h]
attribute [simp] mpFind_mS mpPut_mS
end Go.AM
