/-
  Machines: the reference's classes.
-/
import Derived.Test.YtnimmbjbinpajaaDoorFnNj
import Derived.Test.YtnimmbjbinpajaaDoorAmWk
set_option linter.unusedVariables false
set_option linter.unusedSimpArgs false
set_option linter.unusedSectionVars false
set_option maxRecDepth 100000
set_option maxHeartbeats 1600000
namespace Go.AM
open Go.Proofs
theorem ixOf_eq {α : Type} : ∀ {l : List α} {x : α} {j : Nat} (hj : j < l.length), l[j] = x → (∀ i (hi : i < j), l[i]'(by omega) ≠ x) → ixOf l x = j
  | [], _, _, hj, _, _ => by simp at hj
  | y :: l, x, 0, _, h, _ => by
    have : y = x := by simpa using h
    rw [ixOf, if_pos this]
  | y :: l, x, j + 1, hj, h, hn => by
    have h0 : y ≠ x := by have := hn 0 (by omega); simpa using this
    rw [ixOf, if_neg h0]
    have := ixOf_eq (l := l) (x := x) (j := j) (by simpa using hj) (by simpa using h) (fun i hi => by
      have := hn (i + 1) (by omega)
      simpa using this)
    omega
theorem set_key2 {p z : List Int} {k : Nat} {x y : Int} (hp : p.length = k) : ((p ++ [y]) ++ z).set k x = (p ++ [x]) ++ z := by
  rw [List.append_assoc, List.append_assoc, List.set_append_right _ _ (by omega), hp, Nat.sub_self]; rfl
theorem nth_key2 {p z : List Int} {k : Nat} {y : Int} (hp : p.length = k) : nth ((p ++ [y]) ++ z) k = y := by
  unfold nth
  rw [getD_append (by simp; omega), ← hp, getD_snoc_last]
theorem namesV_zero (c : List Int) (m : MchV) : namesV c m 0 = ([], []) := rfl
theorem l11Classes_spec (a b c : Bool) (m : MchV) (hm : MchOk m) (hn : m.next.length ≤ 65535) (h8 : m.letters ≤ 8) (h0 : 0 < m.next.length) :
    ACalls Tryd.prog 126 [refA a b c m] (fun xs r => xs = [refA a b c m] ∧ ∃ cl, cl.length = m.next.length ∧ ClsOk cl m (fun s => s < m.next.length) ∧ (∀ s, s < m.next.length → -1 ≤ nth cl s ∧ nth cl s < m.next.length) ∧ r = .own 1 true (ints cl)) := by
  have hfl := hm.f
  refine walkR (fun t => t == 1 || t == 7012) mixed Go.Proofs.Tryd.func126 rfl rfl rfl (by kernel_rfl) (by simp) (by simp) (by simp) (by kernel_rfl) ?_
  simp
  refine ⟨_, l11Live_spec a b c m hm hn h8 h0, ?_⟩
  rintro _ _ ⟨rfl, u, hu, rfl⟩
  have hul := hu.len
  have hlv := useful_live hu
  simp
  repeat (refine And.intro (by omega) ?_)
  refine awp_loop2 [1, 3, 4] [12] (fun k : Nat × List Int => [(5, iv k.1)]) (fun k => [(16, .own 1 true (ints k.2))]) (fun k => k.1 ≤ m.next.length ∧ k.2.length = m.next.length ∧ ∀ i, nth k.2 i = if i < k.1 then cls0 m (bAt u) i else 0) (fun k => m.next.length - k.1) (0, List.replicate m.next.length 0) (weak_mk some (by simp) (by simp) rfl) ⟨by simp, by simp, fun i => by
    by_cases h : i < m.next.length
    · simp [nth, h]
    · simp [nth, h]⟩ ?_
  rintro ⟨k, C⟩ ⟨hk, hC, hCi⟩
  simp only at hk hC hCi
  by_cases hlt : k < m.next.length
  · have hfv := finV_bAt m k
    have hkC : k < C.length := by omega
    cases hb : bAt u k
    · simp [hlt, hfl, hul, hC, hb, show k + 1 ≤ m.next.length from hlt]
      rw [ints_put _ _ _ hkC]
      simp only [wrap_id ((k : Int) + 1) (by omega) (by omega)]
      exact Round.mk (k + 1, C.set k (-1)) (weak_mk some (by simp) (by simp) rfl) ⟨hlt, by simpa using hC, cls_next hkC hCi (.inl (by simp [cls0, hb]))⟩ (by simp only; omega)
    · cases hf : bAt m.fin k
      · simp [hlt, hfl, hul, hC, hb, hf, show k + 1 ≤ m.next.length from hlt]
        try simp only [wrap_id ((k : Int) + 1) (by omega) (by omega)]
        exact Round.mk (k + 1, C) (weak_mk some (by simp) (by simp) rfl) ⟨hlt, hC, cls_next hkC hCi (.inr ⟨rfl, by simp [cls0, hb, hfv, hf]⟩)⟩ (by simp only; omega)
      · simp [hlt, hfl, hul, hC, hb, hf, show k + 1 ≤ m.next.length from hlt]
        rw [ints_put _ _ _ hkC]
        simp only [wrap_id ((k : Int) + 1) (by omega) (by omega)]
        exact Round.mk (k + 1, C.set k 1) (weak_mk some (by simp) (by simp) rfl) ⟨hlt, by simpa using hC, cls_next hkC hCi (.inl (by simp [cls0, hb, hfv, hf]))⟩ (by simp only; omega)
  · obtain rfl : k = m.next.length := by omega
    simp [hC]
    refine awp_loop2 [1] [] (fun s : List Int × Int => [(4, .ref 200), (6, iv s.2)]) (fun s => [(200, .own 1 true (ints s.1))]) (fun s => RefOk s.1 m (fun s => bAt u s = true) ∧ (∀ i, i < m.next.length → nth s.1 i ≤ 65534) ∧ -1 ≤ s.2 ∧ s.2 ≤ m.next.length ∧ (s.2 = -1 ∨ OntoC s.1 m.next.length s.2.toNat)) (fun s => (m.next.length - s.2).toNat) (C, -1) (weak_mk (fun t => if t = 200 then some 16 else some t) (by simp) (by simp) rfl) ⟨ref_start hC (fun s hs => by rw [hCi s, if_pos hs]), fun i hi => by
      rw [hCi i, if_pos hi]; unfold cls0; split
      · split <;> omega
      · omega, by simp, by simp only; omega, .inl rfl⟩ ?_
    rintro ⟨cl, many⟩ ⟨hR, hhi, hm1, hmn, hon⟩
    simp only at hR hhi hm1 hmn hon
    have hcl := hR.len
    have hlo : ∀ s, s < m.next.length → -1 ≤ nth cl s ∧ nth cl s ≤ 65534 := fun s hs => ⟨hR.lo s hs, hhi s hs⟩
    simp [hcl]
    repeat (refine And.intro (by omega) ?_)
    refine awp_loop2 [1, 4, 6, 7] [200] (fun s : Nat × List Int => [(9, iv s.1), (8, .ref 201)]) (fun s => [(41, .own 1 true (ints ((namesV cl m s.1).2 ++ List.replicate (m.next.length - s.1) 0))), (201, .own 1 true (ints s.2))]) (fun s => s.1 ≤ m.next.length ∧ s.2.map (fun t => keyV cl m t.toNat) = (namesV cl m s.1).1 ∧ ∀ t ∈ s.2, 0 ≤ t ∧ t < m.next.length) (fun s => m.next.length - s.1) (0, []) (weak_mk (fun t => if t = 201 then some 42 else some t) (by simp) (by simp [namesV_zero]) rfl) ⟨by simp, by simp [namesV_zero], by simp⟩ ?_
    rintro ⟨k, Fs⟩ ⟨hk, hFk, hFr⟩
    simp only at hk hFk hFr
    have hN := namesV_ok cl m k
    have hNs := namesV_succ cl m k
    unfold nStep at hNs
    have hNl := hN.len
    have hNle := hN.le
    have hFl : Fs.length = (namesV cl m k).1.length := by rw [← hFk]; simp
    by_cases hlt : k < m.next.length
    · have hset := fun x => set_key (p := (namesV cl m k).2) (n := m.next.length) (x := x) hNl hlt
      generalize namesV cl m k = p at *
      have hkP : k < (p.2 ++ List.replicate (m.next.length - k) 0).length := by simp; omega
      have hpl : p.2.length + (m.next.length - k) = m.next.length := by omega
      by_cases hneg : nth cl k < 0
      · rw [if_pos hneg] at hNs
        simp [hlt, hcl, hneg, show k + 1 ≤ m.next.length from hlt, hpl]
        rw [ints_put _ _ _ hkP, hset]
        simp only [wrap_id ((k : Int) + 1) (by omega) (by omega)]
        exact Round.mk (k + 1, Fs) (weak_mk some (by simp) (by simp [hNs]) rfl) ⟨hlt, by rw [hNs]; exact hFk, hFr⟩ (by simp only; omega)
      · rw [if_neg hneg] at hNs
        simp [hlt, hcl, hneg, show k + 1 ≤ m.next.length from hlt, hpl]
        rw [ints_put _ _ _ hkP, hset]
        generalize hz : List.replicate (m.next.length - (k + 1)) (0 : Int) = z at *
        have hzl : z.length = m.next.length - (k + 1) := by rw [← hz]; simp
        refine awp_loop2 [1, 4, 6, 7, 8, 9] [200, 201] (fun s : Nat × Int => [(10, iv s.1)]) (fun s => [(41, .own 1 true (ints ((p.2 ++ [s.2]) ++ z)))]) (fun s => s.1 ≤ Fs.length ∧ ((s.2 = -1 ∧ ∀ i, i < s.1 → keyV cl m (nth Fs i).toNat ≠ keyV cl m k) ∨ (0 ≤ s.2 ∧ keyV cl m k ∈ p.1 ∧ s.2 = (ixOf p.1 (keyV cl m k) : Nat)))) (fun s => Fs.length - s.1) (0, -1) (weak_mk some (by simp) (by simp) rfl) ⟨by simp, .inl ⟨rfl, by simp⟩⟩ ?_
        rintro ⟨j, x⟩ ⟨hj, hx⟩
        simp only at hj hx
        have hnx := nth_key2 (p := p.2) (z := z) (y := x) hNl
        have hs2 := fun y => set_key2 (p := p.2) (z := z) (x := y) (y := x) hNl
        have hLl : ((p.2 ++ [x]) ++ z).length = m.next.length := by simp; omega
        generalize hLg : (p.2 ++ [x]) ++ z = Lx at *
        by_cases hjl : j < Fs.length
        · rcases hx with ⟨rfl, hall⟩ | ⟨hx0, hxm, hxe⟩
          · have hfj := hFr _ (nth_mem hjl)
            obtain ⟨fj, hfe⟩ := Int.eq_ofNat_of_zero_le hfj.1
            have hAl := l11Alike_spec a b c true m hm h8 cl hcl k fj hlt (by omega)
            have hput := hs2 (j : Int)
            simp [hjl, hnx, hLl, hlt, hcl, hfe, show k + 1 ≤ m.next.length from hlt, show j + 1 ≤ Fs.length from hjl]
            repeat (rw [exE_eq]; simp [hjl, hnx, hLl, hlt, hcl, hfe, show k + 1 ≤ m.next.length from hlt, show j + 1 ≤ Fs.length from hjl])
            refine ⟨_, hAl, ?_⟩
            by_cases hke : keyV cl m k = keyV cl m fj
            · simp [hke, hLl, hlt, show k + 1 ≤ m.next.length from hlt]
              have hpj : j < p.1.length := by omega
              have hat : ∀ i (hi : i < p.1.length), p.1[i] = keyV cl m (nth Fs i).toNat := fun i hi => by
                have e : p.1[i]? = (Fs.map fun t => keyV cl m t.toNat)[i]? := by rw [hFk]
                rw [List.getElem?_eq_getElem hi, List.getElem?_map, List.getElem?_eq_getElem (by omega)] at e
                simp only [Option.map_some, Option.some.injEq] at e
                rw [e, nth_at (by omega)]
              have hmem : keyV cl m k ∈ p.1 := by
                rw [hke, show fj = (nth Fs j).toNat by omega, ← hat j hpj]; exact List.getElem_mem hpj
              have hix : ixOf p.1 (keyV cl m k) = j := ixOf_eq hpj (by rw [hat j hpj, hke, show (nth Fs j).toNat = fj by omega]) fun i hi => by rw [hat i (by omega)]; exact hall i hi
              have hkL : k < Lx.length := by omega
              rw [ints_put _ _ _ hkL, hput]
              simp only [wrap_id ((j : Int) + 1) (by omega) (by omega)]
              exact Round.mk (j + 1, (j : Int)) (weak_mk some (by simp) (by simp) rfl) ⟨hjl, .inr ⟨by simp only; omega, by rw [← hke]; exact hmem, by rw [← hke, hix]⟩⟩ (by simp only; omega)
            · simp [hke]
              simp only [wrap_id ((j : Int) + 1) (by omega) (by omega)]
              exact Round.mk (j + 1, -1) (weak_mk some (by simp) (by simp [← hLg]) rfl) ⟨hjl, .inl ⟨rfl, fun i hi => by
                by_cases e : i = j
                · subst e; rw [show (nth Fs i).toNat = fj by omega]; exact fun h => hke h.symm
                · exact hall i (by omega)⟩⟩ (by simp only; omega)
          · rw [if_pos hxm] at hNs
            simp [hjl, hnx, hLl, hlt, show ¬ x < 0 by omega, hx0, show k + 1 ≤ m.next.length from hlt]
            simp only [wrap_id ((k : Int) + 1) (by omega) (by omega)]
            exact Round.mk (k + 1, Fs) (weak_mk some (by simp) (by simp [hNs, ← hxe, hz, ← hLg]) rfl) ⟨hlt, by rw [hNs]; exact hFk, hFr⟩ (by simp only; omega)
        · obtain rfl : j = Fs.length := by omega
          rcases hx with ⟨rfl, hall⟩ | ⟨hx0, hxm, hxe⟩
          · have hnm : keyV cl m k ∉ p.1 := fun h => by
              rw [← hFk] at h
              obtain ⟨t, ht, e⟩ := List.mem_map.1 h
              obtain ⟨i, hi, e2⟩ := List.mem_iff_getElem.1 ht
              exact hall i hi (by rw [nth_at hi, e2]; exact e)
            rw [if_neg hnm] at hNs
            have hput := hs2 ((p.1.length : Nat) : Int)
            have hkL : k < Lx.length := by omega
            simp [hnx, hLl, hlt, show k + 1 ≤ m.next.length from hlt, hFl]
            repeat (refine And.intro (by omega) ?_)
            rw [ints_put _ _ _ hkL, hput]
            simp only [wrap_id ((k : Int) + 1) (by omega) (by omega)]
            refine Round.mk (k + 1, Fs ++ [(k : Int)]) (weak_mk (fun t => if t = 201 then some 95 else some t) (by simp) (by simp [hNs, hz]) rfl) ⟨hlt, ?_, fun t ht => ?_⟩ (by simp only; omega)
            · rw [hNs, List.map_append, hFk]; simp
            · rcases List.mem_append.1 ht with ht | ht
              · exact hFr t ht
              · rw [List.mem_singleton] at ht; subst ht; omega
          · rw [if_pos hxm] at hNs
            simp [hnx, hLl, hlt, show ¬ x < 0 by omega, hx0, show k + 1 ≤ m.next.length from hlt]
            simp only [wrap_id ((k : Int) + 1) (by omega) (by omega)]
            exact Round.mk (k + 1, Fs) (weak_mk some (by simp) (by simp [hNs, ← hxe, hz, ← hLg]) rfl) ⟨hlt, by rw [hNs]; exact hFk, hFr⟩ (by simp only; omega)
    · obtain rfl : k = m.next.length := by omega
      have hstep := ref_step hm hlv hR hN
      have hmore := fun many h => ref_more hm hlv hN (many := many) h
      generalize namesV cl m m.next.length = p at *
      simp [hcl, hFl]
      refine ⟨fun hend => ⟨_, .refl _, p.2, hNl, ?_, fun s hs => ⟨hstep.1.lo s hs, ?_⟩, rfl⟩, fun hgo => ?_⟩
      · have ho : OntoC cl m.next.length p.1.length := by
          rcases hon with h0 | h0
          · omega
          · rw [show p.1.length = many.toNat by omega]; exact h0
        exact ref_cls hm hlv hR hN ho (fun s h => h) (fun s a h ha h0 => by have := hm.rr s h a ha; omega) fun s hs => by
          rw [hu.iff s hs]
          exact ⟨fun h => h.2, fun h => ⟨hs, h⟩⟩
      · have := hstep.2.2 s hs; omega
      · refine Round.mk (p.2, (p.1.length : Int)) (weak_mk (fun t => if t = 200 then some 41 else some t) (by simp) (by simp) rfl) ⟨hstep.1, fun i hi => by have := hstep.2.2 i hi; simp only; omega, by simp only; omega, by simp only; omega, .inr (by simpa using hstep.2)⟩ ?_
        simp only
        rcases hon with h0 | h0
        · omega
        · have := hmore _ h0; omega
end Go.AM
