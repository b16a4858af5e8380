/-
  Several texts in one: FnSf FnSg.
-/
import Derived.Test.YthabclhldlikfaaGreatDoorSlLay
import Derived.Test.YthabclhldlikfaaGreatDoorFnMgA
import Derived.Test.YthabclhldlikfaaGreatDoorFnMgT
set_option linter.unusedVariables false
set_option linter.unusedSimpArgs false
set_option linter.unusedSectionVars false
set_option maxRecDepth 100000
set_option maxHeartbeats 1600000
namespace Go.AM
open Go.Proofs
/-- A world behind another one whose memory it holds. -/
theorem world_grow {W w' : World} (hh : ∀ b : Nat, b < W.heap.size → w'.heap[b]? = W.heap[b]?) (hs : W.heap.size ≤ w'.heap.size) (ho : w'.os = W.os) (ht : w'.tape = W.tape) (hu : OutOk w' W) : ∃ q os', w' = Go.Sort.grow (W.drewN q) os' := by
  obtain ⟨heap, tape, drawn, os, output⟩ := W
  obtain ⟨heap', tape', drawn', os', output'⟩ := w'
  simp only at hh hs ho ht
  subst ho; subst ht
  obtain ⟨hu1, hu2⟩ := hu
  simp only at hu1 hu2
  subst hu1
  refine ⟨drawn' - drawn, heap'.extract heap.size heap'.size, ?_⟩
  unfold Go.Sort.grow World.drewN
  simp only
  rw [show drawn + (drawn' - drawn) = drawn' by omega]
  congr 1
  apply Array.ext_getElem?
  intro i
  by_cases hi : i < heap.size
  · rw [Array.getElem?_append_left hi, hh i hi]
  · rw [Array.getElem?_append_right (by omega), Array.getElem?_extract]
    by_cases hi2 : i < heap'.size
    · rw [if_pos (by omega)]; congr 1; omega
    · rw [if_neg (by omega), Array.getElem?_eq_none (by omega)]
theorem repL_perm {w : World} {I : Nat → Prop} {hdr : Nat → Option Value} {α : Type} (f : α → AV) (g : α → Value) {l m : List α} (hp : l.Perm m) : ∀ {B : List Nat}, RepL w I hdr (l.map f) B (l.map g) → ∃ C, RepL w I hdr (m.map f) C (m.map g) ∧ C.Perm B := by
  induction hp with
  | nil => intro B h; exact ⟨B, h, .refl _⟩
  | cons x h ih =>
    intro B hB
    simp only [List.map_cons, RepL] at hB ⊢
    obtain ⟨B₁, B₂, v, vs, rfl, e, h1, h2⟩ := hB
    simp only [List.cons.injEq] at e
    obtain ⟨rfl, rfl⟩ := e
    obtain ⟨C, h3, h4⟩ := ih h2
    exact ⟨B₁ ++ C, ⟨B₁, C, _, _, rfl, rfl, h1, h3⟩, h4.append_left B₁⟩
  | swap x y l =>
    intro B hB
    simp only [List.map_cons, RepL] at hB ⊢
    obtain ⟨B₁, B₂, v, vs, rfl, e, h1, B₃, B₄, v', vs', rfl, rfl, h3, h4⟩ := hB
    simp only [List.cons.injEq] at e
    obtain ⟨rfl, rfl, rfl⟩ := e
    refine ⟨B₃ ++ (B₁ ++ B₄), ⟨B₃, B₁ ++ B₄, _, _, rfl, rfl, h3, B₁, B₄, _, _, rfl, rfl, h1, h4⟩, ?_⟩
    rw [← List.append_assoc, ← List.append_assoc]
    exact List.perm_append_comm.append_right B₄
  | trans h1 h2 ih1 ih2 =>
    intro B hB
    obtain ⟨C, h3, h4⟩ := ih1 hB
    obtain ⟨D, h5, h6⟩ := ih2 h3
    exact ⟨D, h5, h6.trans h4⟩
theorem heap_putE {α : Type} [Inhabited α] (enc : α → Value) {w : World} {b n : Nat} {os : Array Obj} {C : Array Value} {ty : TypeId} {f : Nat × Nat} {d : Array α} (hC : w.heap[b]? = some (.cells C ty f)) :
    (sortWorld enc w b 0 n d os).heap[b]? = some (.cells (Go.Sort.putCells enc 0 d C) ty f) ∧
    (∀ k, k < w.heap.size → k ≠ b → (sortWorld enc w b 0 n d os).heap[k]? = w.heap[k]?) ∧ w.heap.size ≤ (sortWorld enc w b 0 n d os).heap.size := by
  have hb : b < w.heap.size := (Array.getElem?_eq_some_iff.1 hC).1
  have key : ∀ k, k < w.heap.size → (sortWorld enc w b 0 n d os).heap[k]? = (w.heap.modify b (Go.Sort.onCells (Go.Sort.putCells enc 0 d)))[k]? := by
    intro k hk
    show ((w.heap.modify b (Go.Sort.onCells (Go.Sort.putCells enc 0 d))) ++ os)[k]? = _
    rw [Array.getElem?_append_left (by simpa using hk)]
  refine ⟨?_, fun k hk hne => ?_, ?_⟩
  · rw [key b hb, Array.getElem?_modify, if_pos rfl, hC]; rfl
  · rw [key k hk, Array.getElem?_modify, if_neg (fun e => hne e.symm)]
  · show _ ≤ ((w.heap.modify b (Go.Sort.onCells (Go.Sort.putCells enc 0 d))) ++ os).size
    simp
theorem putCells_first {α : Type} [Inhabited α] (enc : α → Value) {d : Array α} {C : Array Value} (h : d.size ≤ C.size) : (Go.Sort.putCells enc 0 d C).toList.take d.size = d.toList.map enc := by
  apply List.ext_getElem?
  intro i
  rw [List.getElem?_take, List.getElem?_map]
  by_cases hi : i < d.size
  · rw [if_pos hi]
    unfold Go.Sort.putCells
    simp only [Array.getElem?_toList, Array.getElem?_mapIdx]
    rw [Array.getElem?_eq_getElem (show i < C.size by omega)]
    simp [hi]
  · rw [if_neg hi, Array.getElem?_toList, Array.getElem?_eq_none (by omega)]; rfl
theorem SortFunc_spec {c : List Int → List Int → Int} (hc : TotC c) (nn b : Bool) (rs : List (List Int)) (hl : rs.length < 1099511627776) (g : FuncId) (hg : ∀ x ∈ rs, ∀ y ∈ rs, ACalls1 Tryz.prog g [.sl 1 b (ints x), .sl 1 b (ints y)] (iv (c x y))) :
    ACalls2 Tryz.prog 151 [.own 1 nn (orows b rs), .fn g []] [.own 1 nn (orows b (sortR c rs)), .fn g []] (.tup []) := by
  refine ⟨⟨_, Go.Proofs.Tryz.func151, rfl, by kernel_rfl⟩, fun w I B vs hI hG hr hB hBI => ?_⟩
  simp only [RepL] at hr
  obtain ⟨B₁, B₂, v, vs', rfl, rfl, h1, B₃, B₄, v2, vs2, rfl, rfl, h2, rfl, rfl⟩ := hr
  simp only [Rep, RepL] at h2
  obtain ⟨rfl, fcs, rfl, _, hfc⟩ := h2
  obtain rfl : fcs = #[] := by simpa using hfc
  have fnr : ∀ (w' : World) (I' : Nat → Prop), Rep w' I' (fun _ => none) (.fn g []) [] (.func (.func g) #[] #[]) := fun w' I' => by
    simp only [Rep, RepL]; exact ⟨trivial, #[], rfl, trivial, rfl⟩
  simp only [List.append_nil] at hB hBI ⊢
  simp only [Rep] at h1
  rcases h1 with ⟨rfl, hnil, rfl, rfl⟩ | ⟨b0, n, cp, C, ty, B', rfl, rfl, hC, hn, hnc, hcC, hcells⟩
  · have : rs = [] := by simpa [orows] using hnil
    subst this
    refine (show Calls Tryz.prog 151 #[.slice none 0 0, .func (.func g) #[] #[]] w _ from AnyF.slices_SortFunc_none { Tryz.sfL with } none 0 _ w).mono ?_
    rintro e w' ⟨rfl, rfl⟩
    refine ⟨_, _, .tuple #[], I, [], [], ⟨rfl, rfl⟩, rfl, fun _ h => h, hI, fun b h => .inl h, ?_, ?_, List.nodup_nil, fun b h => by simp at h, fun _ _ _ => rfl, Nat.le_refl _, rfl, rfl, .refl _⟩
    · simp only [Rep, RepL]; exact ⟨#[], rfl, trivial, rfl⟩
    · simp only [RepL]
      exact ⟨[], [], _, _, rfl, rfl, by simp only [Rep]; exact .inl (by simp [sortR_nil, nilSlice]), [], [], _, _, rfl, rfl, fnr _ _, rfl, rfl⟩
  · rw [orows_length] at hcells
    rw [orows_length] at hn
    obtain rfl : n = rs.length := by omega
    have hb0 : b0 < w.heap.size := (Array.getElem?_eq_some_iff.1 hC).1
    by_cases h0 : rs.length = 0
    · have : rs = [] := List.eq_nil_of_length_eq_zero h0
      subst this
      refine (show Calls Tryz.prog 151 #[.slice (some ⟨b0, 0, none⟩) 0 cp, .func (.func g) #[] #[]] w _ from AnyF.slices_SortFunc_none { Tryz.sfL with } (some ⟨b0, 0, none⟩) cp _ w).mono ?_
      rintro e w' ⟨rfl, rfl⟩
      refine ⟨_, _, .tuple #[], I, [], b0 :: B', ⟨rfl, rfl⟩, rfl, fun _ h => h, hI, fun b h => .inl h, ?_, ?_, hB, fun x h => ⟨hBI x (by simpa using h), .inl (by simpa using h)⟩, fun _ _ _ => rfl, Nat.le_refl _, rfl, rfl, .refl _⟩
      · simp only [Rep, RepL]; exact ⟨#[], rfl, trivial, rfl⟩
      · simp only [RepL]
        refine ⟨b0 :: B', [], _, _, by simp, rfl, ?_, [], [], _, _, rfl, rfl, fnr _ _, rfl, rfl⟩
        simp only [Rep]
        exact .inr ⟨b0, 0, cp, C, ty, B', rfl, rfl, hC, by simp [sortR_nil], hnc, hcC, by simpa [sortR_nil] using hcells⟩
    · have hnd := List.nodup_cons.1 hB
      haveI : Inhabited (Fin rs.length) := ⟨⟨0, by omega⟩⟩
      have hlen := hcells.length
      rw [orows_length] at hlen
      have hCl : rs.length ≤ C.size := by simp at hlen; omega
      generalize hhs : C.toList.take rs.length = hs at *
      have hat : ∀ i : Fin rs.length, C[i.1]? = some (hs[i.1]'(by rw [hlen]; exact i.2)) := fun i => by
        have : hs[i.1]? = C[i.1]? := by rw [← hhs, List.getElem?_take, if_pos i.2]; simp
        rw [← this, List.getElem?_eq_getElem]
      let enc : Fin rs.length → Value := fun i => hs[i.1]'(by rw [hlen]; exact i.2)
      let cf : Fin rs.length → Fin rs.length → Int := fun i j => c rs[i.1] rs[j.1]
      let d : Array (Fin rs.length) := Array.ofFn fun i => i
      have hone := all_one (hdr := fun _ => none) (fun _ _ h => by cases h) (orows_one b rs) hcells
      have h1 : OneCell enc := fun i => hone _ (List.getElem_mem _)
      have hO : Go.Sort.SWO (ltOf cf) := by
        refine ⟨fun x => ?_, fun x y z a1 a2 => ?_, fun x y z a1 a2 => ?_⟩
        · simp [ltOf, cf, hc.self]
        · simp only [ltOf, cf, decide_eq_true_eq] at *
          have h3 := hc.trans _ _ _ (show c rs[x.1] rs[y.1] ≤ 0 by omega) (show c rs[y.1] rs[z.1] ≤ 0 by omega)
          by_cases e : c rs[x.1] rs[z.1] = 0
          · rw [hc.zero _ _ e] at a1
            exact absurd a2 (hc.anti _ _ a1)
          · omega
        · simp only [ltOf, cf, decide_eq_false_iff_not] at *
          have g1 : c rs[y.1] rs[x.1] ≤ 0 := by
            rcases hc.total rs[y.1] rs[x.1] with h | h
            · exact h
            · exact absurd h a1
          have g2 : c rs[z.1] rs[y.1] ≤ 0 := by
            rcases hc.total rs[z.1] rs[y.1] with h | h
            · exact h
            · exact absurd h a2
          have g3 := hc.trans _ _ _ g2 g1
          rw [← hc.not_le]; simpa using g3
      have eg : ∀ args w, (callFunc g args).run Tryz.prog w = .ok (.enter g args) w := by
        have hx := (hg rs[0] (List.getElem_mem _) rs[0] (List.getElem_mem _)).1
        exact fun args w => run_callFunc hx args w
      have hrow : ∀ i : Fin rs.length, ∃ Bi, Rep w I (fun _ => none) (.own 1 b (ints rs[i.1])) Bi (enc i) ∧ ∀ x, x ∈ Bi → x ∈ B' := fun i => by
        obtain ⟨u, Bi, hu, hri, hBi⟩ := hcells.get (i := i.1) (x := .own 1 b (ints rs[i.1])) (by simp [orows])
        rw [List.getElem?_eq_getElem (by rw [hlen]; exact i.2)] at hu
        cases hu
        exact ⟨Bi, hri, hBi⟩
      have hlt : ∀ x, x ∈ B' → x < w.heap.size := RepL.lt _ _ _ hcells
      have hcmp : CmpLays1 Tryz.prog g #[] enc cf b0 0 d.size w := by
        intro m os dk hdk x y
        obtain ⟨p1, p2, p3⟩ := heap_putE enc (n := m) (os := os) (d := dk) hC
        have hrep : ∀ i : Fin rs.length, Rep (sortWorld enc w b0 0 m dk os) (fun z => I z ∨ z ∈ B') (fun _ => none) (.sl 1 b (ints rs[i.1])) [] (enc i) := fun i => by
          obtain ⟨Bi, hri, hBi⟩ := hrow i
          have hv := Rep.view (fun _ => rfl) _ _ _ (fun z => I z ∨ z ∈ B') (fun z hz => .inl hz) (fun z hz => .inr (hBi z hz)) hri
          simp only [view, ints_view] at hv
          refine Rep.frame (fun z hz => hz) (fun z hz => p2 z ?_ ?_) _ _ _ (fun z hz => by cases hz) hv
          · rcases hz with hz | hz
            · exact hI z hz
            · exact hlt z hz
          · rintro rfl
            rcases hz with hz | hz
            · exact hBI z (by simp) hz
            · exact hnd.1 hz
        have hcall := (hg rs[x.1] (List.getElem_mem _) rs[y.1] (List.getElem_mem _)).2 (sortWorld enc w b0 0 m dk os) (fun z => I z ∨ z ∈ B') [] [enc x, enc y] (fun z hz => by
            rcases hz with hz | hz
            · exact Nat.lt_of_lt_of_le (hI z hz) p3
            · exact Nat.lt_of_lt_of_le (hlt z hz) p3) (fun nm tab gg hm hgg => by
            obtain ⟨q1, q2⟩ := hG nm tab gg hm hgg
            refine ⟨.inl q1, fun j v hv => ?_⟩
            have q3 := q2 j v hv
            have q4 := p2 gg (hI gg q1) (fun e => hBI gg (by rw [e]; simp) q1)
            unfold World.cell? at q3 ⊢
            simp only at q3 ⊢
            rw [q4]; exact q3) (by
            simp only [RepL]
            exact ⟨[], [], _, _, rfl, rfl, hrep x, [], [], _, _, rfl, rfl, hrep y, rfl, rfl⟩) List.nodup_nil (fun _ hz => by cases hz)
        refine (show Calls Tryz.prog g (#[enc x, enc y] ++ #[]) _ _ from hcall).mono ?_
        rintro e w' ⟨args', r', v, I', C₁, C₂, hr', rfl, _, _, _, hv, _, _, _, hfr, hsz, ho, ht, hu⟩
        subst hr'
        simp only [Rep] at hv
        refine ⟨by rw [hv.2], world_grow (fun z hz => hfr z hz (by simp)) hsz ho ht hu⟩
      have hd : d.size = rs.length := by simp [d]
      have hH : Go.Sort.Holds enc w b0 0 d := by
        intro j hj
        rw [hd] at hj
        have e : d[j]! = ⟨j, hj⟩ := by simp [d, hj]
        rw [e, Nat.zero_add]
        constructor
        · unfold World.cell?
          simp [hC, hat ⟨j, hj⟩, enc]
        · unfold World.frozen?
          simp [hC]
      refine (show Calls Tryz.prog 151 #[.slice (some ⟨b0, 0, none⟩) rs.length cp, .func (.func g) #[] #[]] w _ from hd ▸ Any.slices_SortFunc Tryz.sfL enc h1 cf hO g #[] b0 0 cp d w eg hcmp hH hb0 (by omega)).mono ?_
      rintro e w' ⟨rfl, d', m, os, hp, hsrt, rfl⟩
      obtain ⟨p1, p2, p3⟩ := heap_putE enc (n := m) (os := os) (d := d') hC
      obtain ⟨hs1, _, hs2⟩ := hp
      rw [hd] at hs1
      have hperm : d'.toList.Perm d.toList := by
        have e1 : d'.extract 0 rs.length = d' := Array.extract_eq_self_of_le (by omega)
        have e2 : d.extract 0 rs.length = d := Array.extract_eq_self_of_le (by omega)
        rwa [e1, e2] at hs2
      have hrows : d.toList.map (fun i => rs[i.1]) = rs := by
        apply List.ext_getElem
        · simp [d]
        · intro i h1 h2; simp [d]
      have hencs : d.toList.map enc = hs := by
        apply List.ext_getElem
        · simp [d, hlen]
        · intro i h1 h2; simp [d, enc]
      have hsort : sortR c rs = d'.toList.map fun i => rs[i.1] := by
        refine sortR_eq hc ?_ ?_
        · exact (List.Perm.of_eq hrows.symm).trans (hperm.map fun i => rs[i.1]).symm
        · rw [List.pairwise_map, List.pairwise_iff_getElem]
          intro i j hi hj hij
          have h2 := hsrt i j (Nat.zero_le _) hij (by simp at hj; omega)
          have e1 : d'[i]! = d'.toList[i] := by simp at hi; simp [hi]
          have e2 : d'[j]! = d'.toList[j] := by simp at hj; simp [hj]
          rw [e1, e2] at h2
          simp only [ltOf, cf, decide_eq_false_iff_not] at h2
          exact Classical.byContradiction fun h3 => h2 (hc.not_le.1 h3)
      have hcells2 : RepL w I (fun _ => none) (d.toList.map fun i => .own 1 b (ints rs[i.1])) B' (d.toList.map enc) := by
        rw [hencs]
        have : (d.toList.map fun i => (AV.own 1 b (ints rs[i.1]))) = orows b rs := by
          conv => rhs; rw [← hrows]
          simp [orows]
        rw [this]; exact hcells
      obtain ⟨B'', hr2, hpB⟩ := repL_perm _ _ hperm.symm hcells2
      have hr3 : RepL (sortWorld enc w b0 0 m d' os) I (fun _ => none) (orows b (sortR c rs)) B'' (d'.toList.map enc) := by
        rw [hsort]
        have : orows b (d'.toList.map fun i => rs[i.1]) = d'.toList.map fun i => .own 1 b (ints rs[i.1]) := by simp [orows]
        rw [this]
        refine RepL.frame (fun _ h => h) (fun z hz => p2 z (hI z hz) (fun e => hBI z (by rw [e]; simp) hz)) _ _ _ (fun z hz => ?_) hr2
        have hz' := hpB.mem_iff.1 hz
        exact p2 z (hlt z hz') (fun e => hnd.1 (by rw [← e]; exact hz'))
      have hnd2 : (b0 :: B'').Nodup := List.nodup_cons.2 ⟨fun h => hnd.1 (hpB.mem_iff.1 h), hpB.nodup_iff.2 hnd.2⟩
      have hmem : ∀ x, x ∈ b0 :: B'' → x ∈ b0 :: B' := fun x hx => by
        rcases List.mem_cons.1 hx with rfl | hx
        · simp
        · simp [hpB.mem_iff.1 hx]
      refine ⟨_, _, .tuple #[], I, [], b0 :: B'', ⟨rfl, rfl⟩, rfl, fun _ h => h, fun x h => Nat.lt_of_lt_of_le (hI x h) p3, fun b h => .inl h, ?_, ?_, hnd2, fun x h => ⟨hBI x (hmem x (by simpa using h)), .inl (hmem x (by simpa using h))⟩, fun x hx hxB => p2 x hx (fun e => hxB (by rw [e]; simp)), p3, rfl, rfl, rfl, Nat.le_add_right _ _⟩
      · simp only [Rep, RepL]; exact ⟨#[], rfl, trivial, rfl⟩
      · simp only [RepL]
        refine ⟨b0 :: B'', [], _, _, by simp, rfl, ?_, [], [], _, _, rfl, rfl, fnr _ _, rfl, rfl⟩
        simp only [Rep]
        refine .inr ⟨b0, rs.length, cp, _, ty, B'', rfl, rfl, p1, by simp, hnc, ?_, ?_⟩
        · simpa [Go.Sort.putCells] using hcC
        · have e := putCells_first enc (d := d') (C := C) (by omega)
          rw [hs1] at e
          rw [orows_length, sortR_length, e]; exact hr3
theorem SortFuncS_spec {c : List Int → List Int → Int} (hc : TotC c) (nn b : Bool) (rs : List (List Int)) (hl : rs.length < 1099511627776) (g : FuncId) (hg : ∀ x ∈ rs, ∀ y ∈ rs, ACalls1 Tryz.prog g [.sl 1 b (ints x), .sl 1 b (ints y)] (iv (c x y))) :
    ACalls2 Tryz.prog 151 [.own 1 nn (srows b rs), .fn g []] [.own 1 nn (srows b (sortR c rs)), .fn g []] (.tup []) := by
  refine ⟨⟨_, Go.Proofs.Tryz.func151, rfl, by kernel_rfl⟩, fun w I B vs hI hG hr hB hBI => ?_⟩
  simp only [RepL] at hr
  obtain ⟨B₁, B₂, v, vs', rfl, rfl, h1, B₃, B₄, v2, vs2, rfl, rfl, h2, rfl, rfl⟩ := hr
  simp only [Rep, RepL] at h2
  obtain ⟨rfl, fcs, rfl, _, hfc⟩ := h2
  obtain rfl : fcs = #[] := by simpa using hfc
  have fnr : ∀ (w' : World) (I' : Nat → Prop), Rep w' I' (fun _ => none) (.fn g []) [] (.func (.func g) #[] #[]) := fun w' I' => by
    simp only [Rep, RepL]; exact ⟨trivial, #[], rfl, trivial, rfl⟩
  simp only [List.append_nil] at hB hBI ⊢
  simp only [Rep] at h1
  rcases h1 with ⟨rfl, hnil, rfl, rfl⟩ | ⟨b0, n, cp, C, ty, B', rfl, rfl, hC, hn, hnc, hcC, hcells⟩
  · have : rs = [] := by simpa [srows] using hnil
    subst this
    refine (show Calls Tryz.prog 151 #[.slice none 0 0, .func (.func g) #[] #[]] w _ from AnyF.slices_SortFunc_none { Tryz.sfL with } none 0 _ w).mono ?_
    rintro e w' ⟨rfl, rfl⟩
    refine ⟨_, _, .tuple #[], I, [], [], ⟨rfl, rfl⟩, rfl, fun _ h => h, hI, fun b h => .inl h, ?_, ?_, List.nodup_nil, fun b h => by simp at h, fun _ _ _ => rfl, Nat.le_refl _, rfl, rfl, .refl _⟩
    · simp only [Rep, RepL]; exact ⟨#[], rfl, trivial, rfl⟩
    · simp only [RepL]
      exact ⟨[], [], _, _, rfl, rfl, by simp only [Rep]; exact .inl (by simp [sortR_nil, nilSlice]), [], [], _, _, rfl, rfl, fnr _ _, rfl, rfl⟩
  · rw [srows_length] at hcells
    rw [srows_length] at hn
    obtain rfl : n = rs.length := by omega
    have hb0 : b0 < w.heap.size := (Array.getElem?_eq_some_iff.1 hC).1
    by_cases h0 : rs.length = 0
    · have : rs = [] := List.eq_nil_of_length_eq_zero h0
      subst this
      refine (show Calls Tryz.prog 151 #[.slice (some ⟨b0, 0, none⟩) 0 cp, .func (.func g) #[] #[]] w _ from AnyF.slices_SortFunc_none { Tryz.sfL with } (some ⟨b0, 0, none⟩) cp _ w).mono ?_
      rintro e w' ⟨rfl, rfl⟩
      refine ⟨_, _, .tuple #[], I, [], b0 :: B', ⟨rfl, rfl⟩, rfl, fun _ h => h, hI, fun b h => .inl h, ?_, ?_, hB, fun x h => ⟨hBI x (by simpa using h), .inl (by simpa using h)⟩, fun _ _ _ => rfl, Nat.le_refl _, rfl, rfl, .refl _⟩
      · simp only [Rep, RepL]; exact ⟨#[], rfl, trivial, rfl⟩
      · simp only [RepL]
        refine ⟨b0 :: B', [], _, _, by simp, rfl, ?_, [], [], _, _, rfl, rfl, fnr _ _, rfl, rfl⟩
        simp only [Rep]
        exact .inr ⟨b0, 0, cp, C, ty, B', rfl, rfl, hC, by simp [sortR_nil], hnc, hcC, by simpa [sortR_nil] using hcells⟩
    · have hnd := List.nodup_cons.1 hB
      haveI : Inhabited (Fin rs.length) := ⟨⟨0, by omega⟩⟩
      have hlen := hcells.length
      rw [srows_length] at hlen
      have hCl : rs.length ≤ C.size := by simp at hlen; omega
      generalize hhs : C.toList.take rs.length = hs at *
      have hat : ∀ i : Fin rs.length, C[i.1]? = some (hs[i.1]'(by rw [hlen]; exact i.2)) := fun i => by
        have : hs[i.1]? = C[i.1]? := by rw [← hhs, List.getElem?_take, if_pos i.2]; simp
        rw [← this, List.getElem?_eq_getElem]
      let enc : Fin rs.length → Value := fun i => hs[i.1]'(by rw [hlen]; exact i.2)
      let cf : Fin rs.length → Fin rs.length → Int := fun i j => c rs[i.1] rs[j.1]
      let d : Array (Fin rs.length) := Array.ofFn fun i => i
      have hone := all_one (hdr := fun _ => none) (fun _ _ h => by cases h) (srows_one b rs) hcells
      have h1 : OneCell enc := fun i => hone _ (List.getElem_mem _)
      have hO : Go.Sort.SWO (ltOf cf) := by
        refine ⟨fun x => ?_, fun x y z a1 a2 => ?_, fun x y z a1 a2 => ?_⟩
        · simp [ltOf, cf, hc.self]
        · simp only [ltOf, cf, decide_eq_true_eq] at *
          have h3 := hc.trans _ _ _ (show c rs[x.1] rs[y.1] ≤ 0 by omega) (show c rs[y.1] rs[z.1] ≤ 0 by omega)
          by_cases e : c rs[x.1] rs[z.1] = 0
          · rw [hc.zero _ _ e] at a1
            exact absurd a2 (hc.anti _ _ a1)
          · omega
        · simp only [ltOf, cf, decide_eq_false_iff_not] at *
          have g1 : c rs[y.1] rs[x.1] ≤ 0 := by
            rcases hc.total rs[y.1] rs[x.1] with h | h
            · exact h
            · exact absurd h a1
          have g2 : c rs[z.1] rs[y.1] ≤ 0 := by
            rcases hc.total rs[z.1] rs[y.1] with h | h
            · exact h
            · exact absurd h a2
          have g3 := hc.trans _ _ _ g2 g1
          rw [← hc.not_le]; simpa using g3
      have eg : ∀ args w, (callFunc g args).run Tryz.prog w = .ok (.enter g args) w := by
        have hx := (hg rs[0] (List.getElem_mem _) rs[0] (List.getElem_mem _)).1
        exact fun args w => run_callFunc hx args w
      have hrow : ∀ i : Fin rs.length, ∃ Bi, Rep w I (fun _ => none) (.sl 1 b (ints rs[i.1])) Bi (enc i) ∧ ∀ x, x ∈ Bi → x ∈ B' := fun i => by
        obtain ⟨u, Bi, hu, hri, hBi⟩ := hcells.get (i := i.1) (x := .sl 1 b (ints rs[i.1])) (by simp [srows])
        rw [List.getElem?_eq_getElem (by rw [hlen]; exact i.2)] at hu
        cases hu
        exact ⟨Bi, hri, hBi⟩
      have hlt : ∀ x, x ∈ B' → x < w.heap.size := RepL.lt _ _ _ hcells
      have hcmp : CmpLays1 Tryz.prog g #[] enc cf b0 0 d.size w := by
        intro m os dk hdk x y
        obtain ⟨p1, p2, p3⟩ := heap_putE enc (n := m) (os := os) (d := dk) hC
        have hrep : ∀ i : Fin rs.length, Rep (sortWorld enc w b0 0 m dk os) (fun z => I z ∨ z ∈ B') (fun _ => none) (.sl 1 b (ints rs[i.1])) [] (enc i) := fun i => by
          obtain ⟨Bi, hri, hBi⟩ := hrow i
          have hv := Rep.view (fun _ => rfl) _ _ _ (fun z => I z ∨ z ∈ B') (fun z hz => .inl hz) (fun z hz => .inr (hBi z hz)) hri
          simp only [view] at hv
          refine Rep.frame (fun z hz => hz) (fun z hz => p2 z ?_ ?_) _ _ _ (fun z hz => by cases hz) hv
          · rcases hz with hz | hz
            · exact hI z hz
            · exact hlt z hz
          · rintro rfl
            rcases hz with hz | hz
            · exact hBI z (by simp) hz
            · exact hnd.1 hz
        have hcall := (hg rs[x.1] (List.getElem_mem _) rs[y.1] (List.getElem_mem _)).2 (sortWorld enc w b0 0 m dk os) (fun z => I z ∨ z ∈ B') [] [enc x, enc y] (fun z hz => by
            rcases hz with hz | hz
            · exact Nat.lt_of_lt_of_le (hI z hz) p3
            · exact Nat.lt_of_lt_of_le (hlt z hz) p3) (fun nm tab gg hm hgg => by
            obtain ⟨q1, q2⟩ := hG nm tab gg hm hgg
            refine ⟨.inl q1, fun j v hv => ?_⟩
            have q3 := q2 j v hv
            have q4 := p2 gg (hI gg q1) (fun e => hBI gg (by rw [e]; simp) q1)
            unfold World.cell? at q3 ⊢
            simp only at q3 ⊢
            rw [q4]; exact q3) (by
            simp only [RepL]
            exact ⟨[], [], _, _, rfl, rfl, hrep x, [], [], _, _, rfl, rfl, hrep y, rfl, rfl⟩) List.nodup_nil (fun _ hz => by cases hz)
        refine (show Calls Tryz.prog g (#[enc x, enc y] ++ #[]) _ _ from hcall).mono ?_
        rintro e w' ⟨args', r', v, I', C₁, C₂, hr', rfl, _, _, _, hv, _, _, _, hfr, hsz, ho, ht, hu⟩
        subst hr'
        simp only [Rep] at hv
        refine ⟨by rw [hv.2], world_grow (fun z hz => hfr z hz (by simp)) hsz ho ht hu⟩
      have hd : d.size = rs.length := by simp [d]
      have hH : Go.Sort.Holds enc w b0 0 d := by
        intro j hj
        rw [hd] at hj
        have e : d[j]! = ⟨j, hj⟩ := by simp [d, hj]
        rw [e, Nat.zero_add]
        constructor
        · unfold World.cell?
          simp [hC, hat ⟨j, hj⟩, enc]
        · unfold World.frozen?
          simp [hC]
      refine (show Calls Tryz.prog 151 #[.slice (some ⟨b0, 0, none⟩) rs.length cp, .func (.func g) #[] #[]] w _ from hd ▸ Any.slices_SortFunc Tryz.sfL enc h1 cf hO g #[] b0 0 cp d w eg hcmp hH hb0 (by omega)).mono ?_
      rintro e w' ⟨rfl, d', m, os, hp, hsrt, rfl⟩
      obtain ⟨p1, p2, p3⟩ := heap_putE enc (n := m) (os := os) (d := d') hC
      obtain ⟨hs1, _, hs2⟩ := hp
      rw [hd] at hs1
      have hperm : d'.toList.Perm d.toList := by
        have e1 : d'.extract 0 rs.length = d' := Array.extract_eq_self_of_le (by omega)
        have e2 : d.extract 0 rs.length = d := Array.extract_eq_self_of_le (by omega)
        rwa [e1, e2] at hs2
      have hrows : d.toList.map (fun i => rs[i.1]) = rs := by
        apply List.ext_getElem
        · simp [d]
        · intro i h1 h2; simp [d]
      have hencs : d.toList.map enc = hs := by
        apply List.ext_getElem
        · simp [d, hlen]
        · intro i h1 h2; simp [d, enc]
      have hsort : sortR c rs = d'.toList.map fun i => rs[i.1] := by
        refine sortR_eq hc ?_ ?_
        · exact (List.Perm.of_eq hrows.symm).trans (hperm.map fun i => rs[i.1]).symm
        · rw [List.pairwise_map, List.pairwise_iff_getElem]
          intro i j hi hj hij
          have h2 := hsrt i j (Nat.zero_le _) hij (by simp at hj; omega)
          have e1 : d'[i]! = d'.toList[i] := by simp at hi; simp [hi]
          have e2 : d'[j]! = d'.toList[j] := by simp at hj; simp [hj]
          rw [e1, e2] at h2
          simp only [ltOf, cf, decide_eq_false_iff_not] at h2
          exact Classical.byContradiction fun h3 => h2 (hc.not_le.1 h3)
      have hcells2 : RepL w I (fun _ => none) (d.toList.map fun i => .sl 1 b (ints rs[i.1])) B' (d.toList.map enc) := by
        rw [hencs]
        have : (d.toList.map fun i => (AV.sl 1 b (ints rs[i.1]))) = srows b rs := by
          conv => rhs; rw [← hrows]
          simp [srows]
        rw [this]; exact hcells
      obtain ⟨B'', hr2, hpB⟩ := repL_perm _ _ hperm.symm hcells2
      have hr3 : RepL (sortWorld enc w b0 0 m d' os) I (fun _ => none) (srows b (sortR c rs)) B'' (d'.toList.map enc) := by
        rw [hsort]
        have : srows b (d'.toList.map fun i => rs[i.1]) = d'.toList.map fun i => .sl 1 b (ints rs[i.1]) := by simp [srows]
        rw [this]
        refine RepL.frame (fun _ h => h) (fun z hz => p2 z (hI z hz) (fun e => hBI z (by rw [e]; simp) hz)) _ _ _ (fun z hz => ?_) hr2
        have hz' := hpB.mem_iff.1 hz
        exact p2 z (hlt z hz') (fun e => hnd.1 (by rw [← e]; exact hz'))
      have hnd2 : (b0 :: B'').Nodup := List.nodup_cons.2 ⟨fun h => hnd.1 (hpB.mem_iff.1 h), hpB.nodup_iff.2 hnd.2⟩
      have hmem : ∀ x, x ∈ b0 :: B'' → x ∈ b0 :: B' := fun x hx => by
        rcases List.mem_cons.1 hx with rfl | hx
        · simp
        · simp [hpB.mem_iff.1 hx]
      refine ⟨_, _, .tuple #[], I, [], b0 :: B'', ⟨rfl, rfl⟩, rfl, fun _ h => h, fun x h => Nat.lt_of_lt_of_le (hI x h) p3, fun b h => .inl h, ?_, ?_, hnd2, fun x h => ⟨hBI x (hmem x (by simpa using h)), .inl (hmem x (by simpa using h))⟩, fun x hx hxB => p2 x hx (fun e => hxB (by rw [e]; simp)), p3, rfl, rfl, rfl, Nat.le_add_right _ _⟩
      · simp only [Rep, RepL]; exact ⟨#[], rfl, trivial, rfl⟩
      · simp only [RepL]
        refine ⟨b0 :: B'', [], _, _, by simp, rfl, ?_, [], [], _, _, rfl, rfl, fnr _ _, rfl, rfl⟩
        simp only [Rep]
        refine .inr ⟨b0, rs.length, cp, _, ty, B'', rfl, rfl, p1, by simp, hnc, ?_, ?_⟩
        · simpa [Go.Sort.putCells] using hcC
        · have e := putCells_first enc (d := d') (C := C) (by omega)
          rw [hs1] at e
          rw [srows_length, sortR_length, e]; exact hr3
end Go.AM
