/-
  Draws: structures.
-/
import Derived.Test.YthabclhldlikfaaGreatDoorFnUi
import Derived.Test.YthabclhldlikfaaGreatDoorFnUh
import Derived.Test.YthabclhldlikfaaGreatDoorAmWk
set_option linter.unusedVariables false
set_option linter.unusedSimpArgs false
set_option linter.unusedSectionVars false
set_option maxRecDepth 100000
set_option maxHeartbeats 1600000
namespace Go.AM
open Go.Proofs
/-- A structure as it is drawn. -/
structure StSm (x : StrucV) : Prop where
  k : x.labels.length ≤ 16
  b : x.below.length = x.labels.length
  c : x.clash.length = x.labels.length
  m : ∀ i, i < x.labels.length → M (nth x.below i)
  cm : ∀ i, i < x.labels.length → M (nth x.clash i)
  li : ∀ i, i < x.labels.length → I64 (nth x.labels i)
theorem frOk_sm {n : Nat} {x : StrucV} (h : FrOk n x) (h16 : n ≤ 16) : StSm x :=
  ⟨by rw [h.d]; exact h16, by rw [h.b, h.d], by rw [h.c, h.d], fun i hi => (isM_spec (by omega) (h.m i (by rw [h.d] at hi; exact hi))).1, fun i hi => (isM_spec (by omega) (h.cm i (by rw [h.d] at hi; exact hi))).1, fun i hi => by have := h.li i (by rw [h.d] at hi; exact hi); unfold I64; omega⟩
theorem nth_mapR {f : Nat → Int} {n i : Nat} (h : i < n) : nth ((List.range n).map f) i = f i := by rw [nth_at (by simpa using h)]; simp
theorem structV_sm {x : AlphaV} {rs : List (List Int)} (hx : isAlphaV x = true) : StSm (structV x rs).1 := by
  have nilS : StSm ⟨[], [], []⟩ := ⟨by simp, rfl, rfl, fun i hi => by simp at hi, fun i hi => by simp at hi, fun i hi => by simp at hi⟩
  unfold structV
  split
  · rename_i hf
    obtain ⟨_, ho, _⟩ := isFin_rows hf
    have hok := alOk_of hx
    have ht : TOk x.depends := ⟨by have := hok.len; omega, fun i hi => (alOk_M hok hi).1⟩
    have hP := primesS_ok ht ho rs.length (Nat.le_refl _)
    split
    · rename_i h16
      generalize primesS x.depends rs rs.length = P at *
      refine ⟨by simp [structP]; exact h16, by simp [structP], by simp [structP], fun i hi => ?_, fun i hi => ?_, fun i hi => ?_⟩
      · have hi' : i < P.length := by simpa [structP] using hi
        show M (nth (belowS x.depends P P.length) i)
        unfold belowS; rw [nth_mapR hi']; exact M_orMask _ M_zero _ (by omega)
      · have hi' : i < P.length := by simpa [structP] using hi
        show M (nth (clashS x.depends rs P P.length) i)
        unfold clashS; rw [nth_mapR hi']; exact M_orMask _ M_zero _ (by omega)
      · have hi' : i < P.length := by simpa [structP] using hi
        show I64 (nth (labS P P.length) i)
        unfold labS; rw [nth_mapR hi']
        obtain ⟨o1, o2⟩ := hP.ok _ (nthR_mem hi')
        obtain ⟨p, hp1, hp2⟩ := overW_nth o1 (show (nthR P i).length - 1 < (nthR P i).length by omega)
        unfold labF; rw [hp1]
        have := hok.len
        unfold I64; omega
    · exact nilS
  · exact nilS
theorem l16Draw_spec (nn : Bool) (l : List Int) (s : Src) (hs : SrcOk l s) : ACalls Tryz.prog 212 [srcA nn l s]
    (fun xs r => ∃ s' a y, SrcOk l s' ∧ AlSm a ∧ StSm y ∧ xs = [srcA nn l s'] ∧ r = .tup [alphaSl true a, strucOw false false false y]) := by
  refine walkR (fun t => t == 7008 || t == 2010 || t == 1012 || t == 2015 || t == 2016 || t == 1018 || t == 2021 || t == 1028 || t == 2031 || t == 6007) mixed Go.Proofs.Tryz.func212 rfl rfl rfl (by kernel_rfl) (by simp) (by simp) (by simp) (by kernel_rfl) ?_
  simp
  refine ⟨_, l02Draw_spec nn l s hs, ?_⟩
  rintro _ _ ⟨s1, a, hs1, ⟨ha, ha4⟩, rfl, rfl⟩
  simp
  refine WkK.mk (weak_frz 9001 rfl (by simp)) ?_
  simp
  refine ⟨_, _, l01Next_spec nn l s1 hs1 3 (by unfold I64; omega), ?_⟩
  have hs2 := nxS_ok hs1 3
  generalize nxS l s1 3 = s2 at *
  generalize nxN l s1 3 = r2 at *
  simp
  refine ⟨fun h0 => ?_, fun h0 => ?_⟩
  · refine ⟨_, _, l01Next_spec nn l s2 hs2 8 (by unfold I64; omega), ?_⟩
    have hs3 := nxS_ok hs2 8
    have hb3 := nxN_rng hs2 8
    generalize nxS l s2 8 = s3 at *
    generalize nxN l s2 8 = r3 at *
    obtain ⟨n, rfl⟩ := Int.eq_ofNat_of_zero_le hb3.1
    obtain ⟨f1, f2⟩ := drawFree_ok (l := l) hs3 (n := n) (by omega)
    simp
    refine ⟨_, _, l16DrawFree_spec nn l s3 hs3 n (by omega), ?_⟩
    simp
    first | refine ⟨⟨by kernel_rfl, by kernel_rfl⟩, ?_⟩ | exact ⟨by kernel_rfl, by kernel_rfl⟩
    exact ⟨_, .refl _, _, f1, a, ⟨ha, ha4⟩, _, frOk_sm f2 (by omega), ⟨rfl, rfl⟩, rfl⟩
  · obtain ⟨d1, d2, d3⟩ := dwList_code ha (l := l) hs2 (n := 4) (len := 5) (by omega) (by omega)
    refine ⟨_, _, l12DrawList_spec nn true l s2 hs2 a ha 4 5 (by omega) (by omega), ?_⟩
    have hlet := (alOk_of ha).let_
    have hSt : ∀ (rs : List (List Int)), isFin a rs = true → ACalls1 Tryz.prog 11 [alphaSl true a, .sl 1 false (srows true rs)] (.tup [strucOw false false false (structV a rs).1, iv (structV a rs).2]) := fun rs hf => by
      obtain ⟨_, ho, h40⟩ := isFin_rows hf
      exact specStructureOfTraces_spec true false true a (by rw [hlet]; unfold I64; omega) (by unfold Fits; omega) rs (by omega) (fun r hr => by have := overW_len (ho r hr); unfold Fits; omega)
    have hS1 := hSt _ d2
    have hm1 := structV_sm (x := a) (rs := (dwList a l ((4 : Nat) : Int) ((5 : Nat) : Int) s2).2) ha
    generalize dwList a l ((4 : Nat) : Int) ((5 : Nat) : Int) s2 = W at *
    obtain ⟨s3, rs⟩ := W
    simp only at d1 d2 hS1 hm1
    generalize structV a rs = V at *
    obtain ⟨y, code⟩ := V
    simp only at hS1 hm1
    simp
    refine ⟨_, hS1, ?_⟩
    simp
    first | refine ⟨⟨by kernel_rfl, by kernel_rfl⟩, ?_⟩ | exact ⟨by kernel_rfl, by kernel_rfl⟩
    refine awp_loop2 [0, 2, 3, 4, 5] [2, 3, 4] (fun q : Src × StrucV × Int => [(6, iv q.2.2)]) (fun q => [(1000000000, srcA nn l q.1), (5, .box [.ref 200, .ref 201, .ref 202]), (200, .own 1 false (ints q.2.1.below)), (201, .own 1 false (ints q.2.1.clash)), (202, .own 1 false (ints q.2.1.labels))])
      (fun q => SrcOk l q.1 ∧ StSm q.2.1) (fun q => if q.2.2 = 0 then 0 else 1) (s3, y, code) (weak_mk (fun t => if t = 200 then some 23001000 else if t = 201 then some 23001001 else if t = 202 then some 23001002 else some t) (by simp) (by simp) rfl) ⟨d1, hm1⟩ ?_
    rintro ⟨q, y, c⟩ ⟨hq, hy⟩
    simp only at hq hy
    by_cases hc : c = 0
    · subst hc
      simp
      first | refine ⟨⟨by kernel_rfl, by kernel_rfl⟩, ?_⟩ | exact ⟨by kernel_rfl, by kernel_rfl⟩
      exact ⟨_, .refl _, q, hq, a, ⟨ha, ha4⟩, y, hy, ⟨rfl, rfl⟩, rfl⟩
    · obtain ⟨e1, e2, e3⟩ := dwList_code ha (l := l) hq (n := 2) (len := 4) (by omega) (by omega)
      simp [hc]
      refine ⟨_, _, l12DrawList_spec nn true l q hq a ha 2 4 (by omega) (by omega), ?_⟩
      have hS2 := hSt _ e2
      have hm2 := structV_sm (x := a) (rs := (dwList a l ((2 : Nat) : Int) ((4 : Nat) : Int) q).2) ha
      have e4 := e3 rfl rfl
      generalize dwList a l ((2 : Nat) : Int) ((4 : Nat) : Int) q = W at *
      obtain ⟨q3, rs2⟩ := W
      simp only at e1 e2 hS2 hm2 e4
      generalize structV a rs2 = V at *
      obtain ⟨y2, c2⟩ := V
      simp only at hS2 hm2 e4
      subst e4
      simp
      refine ⟨_, hS2, ?_⟩
      simp
      first | refine ⟨⟨by kernel_rfl, by kernel_rfl⟩, ?_⟩ | exact ⟨by kernel_rfl, by kernel_rfl⟩
      exact Round.mk (q3, y2, 0) (weak_mk (fun t => if t = 200 then some 33001000 else if t = 201 then some 33001001 else if t = 202 then some 33001002 else some t) (by simp) (by simp) rfl) ⟨e1, hm2⟩ (by simp [hc])
end Go.AM
