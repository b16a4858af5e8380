/-
  GlobalAutomaton: the program.
-/
import Derived.Test.YtnimmbjbinpajaaDoorFnMgB
import Derived.Test.YtnimmbjbinpajaaDoorFnMgC
import Derived.Test.YtnimmbjbinpajaaDoorFnNi
import Derived.Test.YtnimmbjbinpajaaDoorFnNh
import Derived.Test.YtnimmbjbinpajaaDoorFnNp
set_option linter.unusedVariables false
set_option linter.unusedSimpArgs false
set_option linter.unusedSectionVars false
set_option maxRecDepth 100000
set_option maxHeartbeats 1600000
namespace Go.AM
open Go.Proofs
def ofK (k : List UInt8) : List Int := k.map fun u => (u.toNat : Int)
def toK (g : List Int) : List UInt8 := g.map u8
theorem of_to {g : List Int} (h : ∀ x ∈ g, 0 ≤ x ∧ x ≤ 3) : ofK (toK g) = g := by
  unfold ofK toK
  rw [List.map_map]
  conv => rhs; rw [← List.map_id g]
  refine List.map_congr_left fun x hx => ?_
  have hx3 := h x hx
  have : x = 0 ∨ x = 1 ∨ x = 2 ∨ x = 3 := by omega
  rcases this with rfl | rfl | rfl | rfl <;> decide
@[reducible] def asyCells (z : AsyV) : List AV := [.sl 1 true (ints z.places), .sl 1 true (ints z.sizes), .sl 1 true (ints z.start), .sl 3 true (jcl z.joints), .sl 1 true (srows true z.final)]
/-- The global states as texts. -/
def asyS (z : AsyV) : Sys (List UInt8) := ⟨z.places.length, fun k a => toK ((stepV z (ofK k) a).getD []), fun k a => (stepV z (ofK k) a).isSome, fun k => decide (ofK k ∈ z.final)⟩
def AsyD (z : AsyV) (k : List UInt8) : Prop := isGlob z.sizes (ofK k) = true ∧ toK (ofK k) = k
theorem asyD_of {z : AsyV} (hz : SzOk z) {g : List Int} (hg : isGlob z.sizes g = true) : AsyD z (toK g) := by
  have h := glob_rng hz hg
  have e := of_to h.2
  exact ⟨by rw [e]; exact hg, by rw [e]⟩
theorem asy_dom {z : AsyV} (hz : isAsy z = true) : DomOk (asyS z) (AsyD z) 256 := by
  have hf := isAsy_facts hz
  refine ⟨fun s a hs ha hok => ?_, fun l hn hl => ?_⟩
  · simp only [asyS] at hok ha ⊢
    cases hst : stepV z (ofK s) a with
    | none => rw [hst] at hok; cases hok
    | some g' => exact asyD_of hf.1 (stepV_glob hz ha hs.1 hst)
  · have hG : GOk z (l.map ofK) := ⟨by
      rw [List.nodup_iff_pairwise_ne, List.pairwise_map]
      refine List.Pairwise.imp_of_mem (fun {a b} ha hb hab e => ?_) (List.nodup_iff_pairwise_ne.1 hn)
      exact hab (by rw [← (hl a ha).2, ← (hl b hb).2, e]), fun g hg => by
      obtain ⟨k, hk, rfl⟩ := List.mem_map.1 hg
      exact (hl k hk).1⟩
    have := hG.le hf.1
    simpa using this
theorem strU_get (k : List UInt8) (i : Nat) (h : i < k.length) : (((strU k).toList.getD i 0).toNat : Int) = nth (ofK k) i := by
  have e : (strU k).toList = k := by
    rw [ByteArray.toList_eq]
    simp [strU]
  rw [e, List.getD_eq_getElem?_getD, List.getElem?_eq_getElem h, nth_at (by simp [ofK]; exact h)]
  simp [ofK]
theorem wordOf_spec (k : List UInt8) (hk : k.length ≤ 1000000) : ACalls1 Tryd.prog 60 [.val (.string (strU k))] (.own 1 true (ints (ofK k))) := by
  have hol : (ofK k).length = k.length := by simp [ofK]
  have hsz : (strU k).size = k.length := rfl
  refine walk (fun _ => false) mixed Go.Proofs.Tryd.func60 rfl rfl rfl (by kernel_rfl) rfl (by simp) (by kernel_rfl) ?_
  simp
  refine awp_loop2 [0] [] (fun i : Nat => [(4, iv i), (3, .ref 200)]) (fun i => [(200, .own 1 true (ints ((ofK k).take i)))]) (fun i => i ≤ k.length) (fun i => k.length - i) 0 (weak_mk (fun t => if t = 200 then some 5 else some t) (by simp) (by simp) rfl) (by simp) ?_
  intro i hi
  by_cases hlt : i < k.length
  · have hg := strU_get k i hlt
    rw [List.getD_eq_getElem?_getD] at hg
    have hu : ((((strU k).toList[i]?.getD 0).toNat : Nat) : Int) ≤ 255 := by have := ((strU k).toList[i]?.getD 0).toNat_lt; omega
    have ht : (ofK k).take (i + 1) = (ofK k).take i ++ [nth (ofK k) i] := by
      rw [List.take_succ_eq_append_getElem (by omega), nth_at (by omega)]
    simp [hlt, hsz]
    refine ⟨by omega, by omega, ?_⟩
    rw [wrap_id (((strU k).toList[i]?.getD 0).toNat : Int) (by omega) (by omega), hg]
    simp only [wrap_id ((i : Int) + 1) (by omega) (by omega)]
    exact Round.mk (i + 1) (weak_mk (fun t => if t = 200 then some 18 else some t) (by simp) (by simp [ht]) rfl) hlt (by omega)
  · obtain rfl : i = k.length := by omega
    rw [List.take_of_length_le (by omega)]
    simp [hsz]
theorem ga1_spec (z : AsyV) (hz : isAsy z = true) (ho : AsyOk z) (k : List UInt8) (hk : AsyD z k) (a : Nat) (ha : a < z.places.length) :
    ACalls1 Tryd.prog 58 [.val (.string (strU k)), iv a, .ip (asyCells z)] (.tup [.val (.string (strU ((asyS z).nx k a))), bv ((asyS z).ok k a)]) := by
  have hf := isAsy_facts hz
  have hr := glob_rng hf.1 hk.1
  have hol : (ofK k).length = k.length := by simp [ofK]
  refine walk (fun t => t == 1010) mixed Go.Proofs.Tryd.func58 rfl rfl rfl (by kernel_rfl) rfl (by simp) (by kernel_rfl) ?_
  simp
  refine ⟨_, wordOf_spec k (by have := hf.1.1; omega), ?_⟩
  simp
  refine ⟨_, move_spec z hz ho _ (ofK k) hr.1 a ha, ?_⟩
  simp
  first | refine ⟨⟨by kernel_rfl, by kernel_rfl⟩, ?_⟩ | exact ⟨by kernel_rfl, by kernel_rfl⟩
  refine ⟨_, wordKey_spec _ _ (by
    cases hs : stepV z (ofK k) a with
    | none => simp
    | some g => have := stepV_len hs; have := hf.1.1; simp; omega), ?_⟩
  simp [asyS, toK]
theorem ga2_spec (z : AsyV) (hz : isAsy z = true) (ho : AsyOk z) (k : List UInt8) (hk : AsyD z k) :
    ACalls1 Tryd.prog 61 [.val (.string (strU k)), .ip (asyCells z)] (bv ((asyS z).fin k)) := by
  have hf := isAsy_facts hz
  have hr := glob_rng hf.1 hk.1
  have hol : (ofK k).length = k.length := by simp [ofK]
  refine walk (fun t => t == 1004) mixed Go.Proofs.Tryd.func61 rfl rfl rfl (by kernel_rfl) rfl (by simp) (by kernel_rfl) ?_
  simp
  refine ⟨_, wordOf_spec k (by have := hf.1.1; omega), ?_⟩
  simp
  refine ⟨_, isFinal_spec z hz ho _ (ofK k) (by unfold Fits; have := hf.1.1; omega), ?_⟩
  simp
  first | refine ⟨⟨by kernel_rfl, by kernel_rfl⟩, ?_⟩ | exact ⟨by kernel_rfl, by kernel_rfl⟩
  simp [asyS]
/-- The minimal automaton of the words that lead to a final global state. -/
noncomputable def globalAutV (z : AsyV) : AutV × Int := if isAsy z then autL z.places.length (sysLang (asyS z) (toK z.start)) else (⟨0, 0, 0, []⟩, 1)
theorem GlobalAutomaton_spec (z : AsyV) (ho : AsyOk z) : ACalls1 Tryd.prog 16 [asySl z] (.tup [autOw false true (globalAutV z).1, iv (globalAutV z).2]) := by
  refine walk (fun t => t == 1 || t == 1011) mixed Go.Proofs.Tryd.func16 rfl rfl rfl (by kernel_rfl) rfl (by simp) (by kernel_rfl) ?_
  simp
  refine ⟨_, IsAsynchronous_spec z ho, ?_⟩
  unfold globalAutV
  cases hz : isAsy z
  · simp
  · have hf := isAsy_facts hz
    have hsl := isGlob_len hf.2.2.1
    have hs4 := hf.1.1
    have hst := asyD_of hf.1 hf.2.2.1
    have hE := explored_s_spec (asyS z) hf.2.2.2.2.2 (AsyD z) 256 (by omega) (asy_dom hz) (toK z.start) hst 58 [.ip (asyCells z)] (fun s a hs ha => ga1_spec z hz ho s hs a ha) 61 [.ip (asyCells z)] (fun s hs => ga2_spec z hz ho s hs)
    obtain ⟨e1, e2, e3, e4⟩ := expM_ok (asy_dom hz) hst
    have hA := automaton_spec false true false (expM (asyS z) (toK z.start)) e1 (by omega) hf.2.2.2.2.2 0 e2 (fun hv => nothing_spec _ _ hf.2.2.2.2.2 hv)
    rw [show ((0 : Nat) : Int) = 0 from rfl, e4, show (expM (asyS z) (toK z.start)).letters = z.places.length from rfl] at hA
    simp
    refine ⟨_, length_spec _ _ (by unfold Fits; omega), ?_⟩
    simp
    refine ⟨_, wordKey_spec _ z.start (by omega), ?_⟩
    simp
    refine ⟨_, hE, ?_⟩
    simp
    first | refine ⟨⟨by kernel_rfl, by kernel_rfl⟩, ?_⟩ | exact ⟨by kernel_rfl, by kernel_rfl⟩
    refine ⟨_, hA, ?_⟩
    simp
end Go.AM
