/-
  Contracts of the laws' helpers: copies and equality of asynchronous automata.
-/
import Derived.Test.YtmpdpjpebekfkaaDoorFnAy
set_option linter.unusedVariables false
set_option linter.unusedSimpArgs false
set_option maxRecDepth 100000
set_option maxHeartbeats 1600000
namespace Go.AM
open Go.Proofs
theorem toJointL (y : JIn) (h : Fits y.2.1.2 ∧ Fits y.2.2.1.2) :
    ACalls1 Tryd.prog 114 [.agg [iv y.1, .sl 1 y.2.1.1 (ints y.2.1.2), .sl 1 y.2.2.1.1 (ints y.2.2.1.2)]] (.agg [iv y.1, .own 1 true (ints y.2.1.2), .own 1 true (ints y.2.2.1.2)]) := by
  refine walk (fun t => t == 1) mixed Go.Proofs.Tryd.func114 rfl rfl rfl (by kernel_rfl) rfl (by simp) (by kernel_rfl) ?_
  simp
  refine ⟨_, toInt64S_spec _ y.2.1.2 h.1, ?_⟩
  simp
  refine ⟨_, toInt64S_spec _ y.2.2.1.2 h.2, ?_⟩
  simp
/-- Cells of joints that are not there yet. -/
def jz (n : Nat) : List AV := (List.replicate n [iv 0, AV.val (.slice none 0 0), AV.val (.slice none 0 0)]).flatten
@[simp] theorem jz_length (n : Nat) : (jz n).length = n * 3 := by
  induction n with
  | zero => rfl
  | succ n ih => simp [jz, List.replicate_succ, Nat.succ_mul] at *
theorem jz_succ (n : Nat) : jz (n + 1) = iv 0 :: .val (.slice none 0 0) :: .val (.slice none 0 0) :: jz n := by simp [jz, List.replicate_succ]
theorem jow_put (L : List J3) (k : Nat) (j : J3) (i : Nat) (hi : L.length = i) :
    List.take (i * 3) (jow L ++ jz (k + 1)) ++ iv j.1 :: AV.own 1 true (ints j.2.1) :: AV.own 1 true (ints j.2.2) :: List.drop (i * 3 + 3) (jow L ++ jz (k + 1)) = jow (L ++ [j]) ++ jz k := by
  have e : i * 3 = (jow L).length := by simp [hi]
  rw [List.take_left' (by rw [e]), ← List.drop_drop, List.drop_left' (by rw [e]), jow_append, jz_succ]
  simp [jow]
/-- Rows that are not there yet. -/
def rz (n : Nat) : List AV := List.replicate n (AV.val (.slice none 0 0))
@[simp] theorem rz_length (n : Nat) : (rz n).length = n := by simp [rz]
theorem rz_succ (n : Nat) : rz (n + 1) = .val (.slice none 0 0) :: rz n := rfl
theorem orows_put (L : List (List Int)) (k : Nat) (j : List Int) (i : Nat) (hi : L.length = i) :
    List.take i (orows true L ++ rz (k + 1)) ++ AV.own 1 true (ints j) :: List.drop (i + 1) (orows true L ++ rz (k + 1)) = orows true (L ++ [j]) ++ rz k := by
  have e : i = (orows true L).length := by simp [hi]
  rw [List.take_left' (by rw [e]), ← List.drop_drop, List.drop_left' (by rw [e]), rz_succ]
  simp [← orows_snoc]
theorem toJointSL (nn : Bool) (l : List JIn) (h : JointsOk l) : ACalls1 Tryd.prog 57 [.sl 3 nn (jin l)] (.own 3 true (jow (l.map jof))) := by
  have hl := h.1
  refine walk (fun _ => false) mixed Go.Proofs.Tryd.func57 rfl rfl rfl (by kernel_rfl) rfl (by simp) (by kernel_rfl) ?_
  simp
  repeat (refine And.intro (by omega) ?_)
  refine awp_loop2 [0, 3] [] (fun i : Nat => [(4, iv i)]) (fun i => [(7, .own 3 true (jow ((l.take i).map jof) ++ jz (l.length - i)))]) (fun i => i ≤ l.length) (fun i => l.length - i) 0 (weak_mk some (by simp) (by simp [jz]) rfl) (by simp) ?_
  intro i hi
  by_cases hlt : i < l.length
  · have hm := h.2 _ (nthI_mem hlt)
    obtain ⟨k, hk⟩ : ∃ k, l.length - i = k + 1 := ⟨l.length - i - 1, by omega⟩
    simp [hlt]
    refine ⟨_, toJointL (nthI l i) ⟨hm.2.1.1, hm.2.2.1⟩, ?_⟩
    simp [hlt, wrap_id ((i : Int) + 1) (by omega) (by omega)]
    refine ⟨by omega, by omega, ?_⟩
    have ep := jow_put ((l.take i).map jof) k (jof (nthI l i)) i (by simp; omega)
    refine Round.mk (i + 1) (weak_mk some (by simp) ?_ rfl) hlt (by omega)
    have e2 : (l.map jof).take (i + 1) = (l.map jof).take i ++ [jof (nthI l i)] := by rw [← List.map_take, ← List.map_take, takeI l i hlt]; simp
    simp only [List.map_take] at ep
    rw [e2, show l.length - (i + 1) = k by omega, ← ep, hk]
    simp [jof]
  · obtain rfl : i = l.length := by omega
    simp [jz]
theorem toInt64SSL (nn : Bool) (l : List (Bool × List Int)) (h : RowsOkF l) : ACalls1 Tryd.prog 58 [.sl 1 nn (rin l)] (.own 1 true (orows true (l.map Prod.snd))) := by
  have hl := h.1
  refine walk (fun _ => false) mixed Go.Proofs.Tryd.func58 rfl rfl rfl (by kernel_rfl) rfl (by simp) (by kernel_rfl) ?_
  simp
  repeat (refine And.intro (by omega) ?_)
  refine awp_loop2 [0, 3] [] (fun i : Nat => [(4, iv i)]) (fun i => [(7, .own 1 true (orows true ((l.take i).map Prod.snd) ++ rz (l.length - i)))]) (fun i => i ≤ l.length) (fun i => l.length - i) 0 (weak_mk some (by simp) (by simp [rz]) rfl) (by simp) ?_
  intro i hi
  by_cases hlt : i < l.length
  · have hm := h.2 _ (nthF_mem hlt)
    obtain ⟨k, hk⟩ : ∃ k, l.length - i = k + 1 := ⟨l.length - i - 1, by omega⟩
    simp [hlt]
    refine ⟨_, toInt64S_spec _ (nthF l i).2 hm.1, ?_⟩
    simp [hlt, wrap_id ((i : Int) + 1) (by omega) (by omega)]
    refine ⟨by omega, ?_⟩
    have ep := orows_put ((l.take i).map Prod.snd) k (nthF l i).2 i (by simp; omega)
    refine Round.mk (i + 1) (weak_mk some (by simp) ?_ rfl) hlt (by omega)
    have e2 : (l.map Prod.snd).take (i + 1) = (l.map Prod.snd).take i ++ [(nthF l i).2] := by rw [← List.map_take, ← List.map_take, takeF l i hlt]; simp
    simp only [List.map_take] at ep
    rw [e2, show l.length - (i + 1) = k by omega, ← ep, hk]
    simp
  · obtain rfl : i = l.length := by omega
    simp [rz]
theorem eqJointL (j : J3) (h : ListOk j.2.1 ∧ ListOk j.2.2) : ACalls1 Tryd.prog 120 [.agg [iv j.1, .sl 1 true (ints j.2.1), .sl 1 true (ints j.2.2)], .agg [iv j.1, .sl 1 true (ints j.2.1), .sl 1 true (ints j.2.2)]] (bv true) := by
  refine walk (fun t => t == 2 || t == 3) mixed Go.Proofs.Tryd.func120 rfl rfl rfl (by kernel_rfl) rfl (by simp) (by kernel_rfl) ?_
  simp
  refine ⟨_, eqInt64SL _ _ j.2.1 h.1, ?_⟩
  simp
  refine ⟨_, eqInt64SL _ _ j.2.2 h.2, ?_⟩
  simp
theorem eqJointSL (l : List J3) (hl : l.length ≤ 1048576) (h : ∀ j ∈ l, ListOk j.2.1 ∧ ListOk j.2.2) : ACalls1 Tryd.prog 64 [.sl 3 true (jcl l), .sl 3 true (jcl l)] (bv true) := by
  refine walk (fun _ => false) mixed Go.Proofs.Tryd.func64 rfl rfl rfl (by kernel_rfl) rfl (by simp) (by kernel_rfl) ?_
  simp
  refine awp_loop2 [0, 1] [] (fun k : Nat => [(5, iv k)]) (fun _ => []) (fun k => k ≤ l.length) (fun k => l.length - k) 0 (weak_mk some (by simp) (by simp) rfl) (by simp) ?_
  intro k hk
  by_cases hlt : k < l.length
  · simp [hlt]
    refine ⟨_, eqJointL (nthJ l k) (h _ (nthJ_mem hlt)), ?_⟩
    simp [wrap_id ((k : Int) + 1) (by omega) (by omega)]
    exact Round.mk (k + 1) (weak_mk some (by simp) (by simp) rfl) hlt (by omega)
  · simp [hlt]
/-! Automata. -/
structure AsyI where
  places : List Int
  sizes : List Int
  start : List Int
  joints : List JIn
  final : List (Bool × List Int)
def AsyI.v (z : AsyI) : AsyV := ⟨z.places, z.sizes, z.start, z.joints.map jof, z.final.map Prod.snd⟩
@[reducible] def asyIn (a b c d e : Bool) (z : AsyI) : AV := .agg [.sl 1 a (ints z.places), .sl 1 b (ints z.sizes), .sl 1 c (ints z.start), .sl 3 d (jin z.joints), .sl 1 e (rin z.final)]
@[reducible] def asySl (z : AsyV) : AV := .agg [.sl 1 true (ints z.places), .sl 1 true (ints z.sizes), .sl 1 true (ints z.start), .sl 3 true (jcl z.joints), .sl 1 true (srows true z.final)]
@[reducible] def asyOw (z : AsyV) : AV := .agg [.own 1 true (ints z.places), .own 1 true (ints z.sizes), .own 1 true (ints z.start), .own 3 true (jow z.joints), .own 1 true (orows true z.final)]
def AsynchronousIn (z : AsyI) : Prop := Int64SIn z.places ∧ Int64SIn z.sizes ∧ Int64SIn z.start ∧ JointsIn z.joints ∧ RowsIn z.final
def AsyOk (z : AsyV) : Prop := ListOk z.places ∧ ListOk z.sizes ∧ ListOk z.start ∧ (z.joints.length ≤ 1048576 ∧ ∀ j ∈ z.joints, I64 j.1 ∧ ListOk j.2.1 ∧ ListOk j.2.2) ∧ z.final.length ≤ 1048576 ∧ ∀ r ∈ z.final, ListOk r
def AsynchronousOk (z : AsyI) : Prop := JointsOk z.joints ∧ RowsOkF z.final ∧ AsyOk z.v ∧ totJ z.joints ≤ 1048576 ∧ totF z.final ≤ 1048576 ∧ z.places.length + z.sizes.length + z.start.length ≤ 1048576
def szA1 (left : Int) (z : AsyI) : Int := szI left z.places.length
def szA2 (left : Int) (z : AsyI) : Int := szI (szA1 left z) z.sizes.length
def szA3 (left : Int) (z : AsyI) : Int := szI (szA2 left z) z.start.length
def szA4 (left : Int) (z : AsyI) : Int := szI (szA3 left z) (z.joints.length + totJ z.joints)
def szA5 (left : Int) (z : AsyI) : Int := szI (szA4 left z) (z.final.length + totF z.final)
def szAsynchronousJ (left : Int) (z : AsyI) : Int := if szA1 left z < 0 then -1 else if szA2 left z < 0 then -1 else if szA3 left z < 0 then -1 else if szA4 left z < 0 then -1 else if szA5 left z < 0 then -1 else szA5 left z
theorem szI_le' {l : Int} {n : Nat} (h : l ≤ 1048576) : szI l n ≤ 1048576 := by unfold szI; split <;> omega
theorem szAsynchronousL (a b c d e : Bool) (z : AsyI) (left : Int) (h : AsynchronousIn z) (h0 : 0 ≤ left) (h1 : left ≤ 1048576) : ACalls1 Tryd.prog 8 [asyIn a b c d e z, iv left] (iv (szAsynchronousJ left z)) := by
  refine walk (fun t => t == 2) mixed Go.Proofs.Tryd.func8 rfl rfl rfl (by kernel_rfl) rfl (by simp) (by kernel_rfl) ?_
  simp
  unfold szAsynchronousJ
  have b1 : szA1 left z ≤ 1048576 := szI_le' h1
  have b2 : szA2 left z ≤ 1048576 := szI_le' b1
  have b3 : szA3 left z ≤ 1048576 := szI_le' b2
  have b4 : szA4 left z ≤ 1048576 := szI_le' b3
  refine ⟨_, szInt64S_spec a z.places _ h.1.1 (by omega) (by omega), ?_⟩
  rw [show szI left z.places.length = szA1 left z from rfl]
  simp
  refine ⟨fun g => by intros; omega, fun g1 => ?_⟩
  refine ⟨_, szInt64S_spec b z.sizes _ h.2.1.1 (by omega) (by omega), ?_⟩
  rw [show szI (szA1 left z) z.sizes.length = szA2 left z from rfl]
  simp
  refine ⟨fun g => by intros; omega, fun g2 => ?_⟩
  refine ⟨_, szInt64S_spec c z.start _ h.2.2.1.1 (by omega) (by omega), ?_⟩
  rw [show szI (szA2 left z) z.start.length = szA3 left z from rfl]
  simp
  refine ⟨fun g => by intros; omega, fun g3 => ?_⟩
  refine ⟨_, szJointSL d z.joints _ h.2.2.2.1 (by omega) (by omega), ?_⟩
  rw [show szI (szA3 left z) (z.joints.length + totJ z.joints) = szA4 left z from rfl]
  simp
  refine ⟨fun g => by intros; omega, fun g4 => ?_⟩
  refine ⟨_, szInt64SSL e z.final _ h.2.2.2.2 (by omega) (by omega), ?_⟩
  rw [show szI (szA4 left z) (z.final.length + totF z.final) = szA5 left z from rfl]
  simp
  refine ⟨fun g => by intros; omega, fun g5 => by first | (intros; omega) | (intro h1 h2 h3 h4 h5; omega) | skip⟩
theorem totF_mem {l : List (Bool × List Int)} : ∀ r ∈ l, r.2.length ≤ totF l := by
  induction l with
  | nil => simp
  | cons x l ih => intro r hr; simp only [totF]; rcases List.mem_cons.1 hr with rfl | hr
                   · omega
                   · have := ih r hr; omega
theorem totJ_mem {l : List JIn} : ∀ r ∈ l, r.2.1.2.length + r.2.2.1.2.length ≤ totJ l := by
  induction l with
  | nil => simp
  | cons x l ih => intro r hr; simp only [totJ]; rcases List.mem_cons.1 hr with rfl | hr
                   · omega
                   · have := ih r hr; omega
theorem total_totF (l : List (Bool × List Int)) : total (l.map Prod.snd) = totF l := by
  induction l with
  | nil => rfl
  | cons x l ih => simp [total, totF, ih]
theorem szI_pos {l : Int} {n : Nat} (h : 0 ≤ szI l n) : szI l n = l - n := by unfold szI at *; split at h <;> simp_all; omega
theorem szAsynchronousL_le {z : AsyI} {left : Int} (h : AsynchronousIn z) (h1 : left ≤ 1048576) (h2 : 0 ≤ szAsynchronousJ left z) : AsynchronousOk z ∧ szAsynchronousJ left z ≤ 1048576 := by
  unfold szAsynchronousJ at h2 ⊢
  by_cases g1 : szA1 left z < 0
  · rw [if_pos g1] at h2; omega
  by_cases g2 : szA2 left z < 0
  · rw [if_neg g1, if_pos g2] at h2; omega
  by_cases g3 : szA3 left z < 0
  · rw [if_neg g1, if_neg g2, if_pos g3] at h2; omega
  by_cases g4 : szA4 left z < 0
  · rw [if_neg g1, if_neg g2, if_neg g3, if_pos g4] at h2; omega
  by_cases g5 : szA5 left z < 0
  · rw [if_neg g1, if_neg g2, if_neg g3, if_neg g4, if_pos g5] at h2; omega
  rw [if_neg g1, if_neg g2, if_neg g3, if_neg g4, if_neg g5] at h2 ⊢
  have e1 : szA1 left z = left - z.places.length := szI_pos (by unfold szA1 at g1; omega)
  have e2 : szA2 left z = szA1 left z - z.sizes.length := szI_pos (by unfold szA2 at g2; omega)
  have e3 : szA3 left z = szA2 left z - z.start.length := szI_pos (by unfold szA3 at g3; omega)
  have e4 : szA4 left z = szA3 left z - (z.joints.length + totJ z.joints : Nat) := szI_pos (by unfold szA4 at g4; omega)
  have e5 : szA5 left z = szA4 left z - (z.final.length + totF z.final : Nat) := szI_pos (by unfold szA5 at g5; omega)
  have hj : JointsOk z.joints := ⟨by omega, fun j hj => by
    have := totJ_mem j hj
    have hh := h.2.2.2.1.2 j hj
    exact ⟨hh.1, listOk_of hh.2.1 (by omega), listOk_of hh.2.2 (by omega)⟩⟩
  have hf : RowsOkF z.final := ⟨by omega, fun r hr => by
    have := totF_mem r hr
    exact listOk_of (h.2.2.2.2.2 r hr) (by omega)⟩
  have p1 : ListOk z.places := listOk_of h.1 (by omega)
  have p2 : ListOk z.sizes := listOk_of h.2.1 (by omega)
  have p3 : ListOk z.start := listOk_of h.2.2.1 (by omega)
  refine ⟨⟨hj, hf, ⟨p1, p2, p3, ?_, ?_⟩, by omega, by omega, by omega⟩, by omega⟩
  · refine ⟨by simpa [AsyI.v] using hj.1, ?_⟩
    intro j hj2
    obtain ⟨y, hy, rfl⟩ := List.mem_map.1 hj2
    exact hj.2 y hy
  · refine ⟨by simpa [AsyI.v] using hf.1, ?_⟩
    intro r hr
    obtain ⟨y, hy, rfl⟩ := List.mem_map.1 hr
    exact hf.2 y hy
theorem toAsynchronousL (a b c d e : Bool) (z : AsyI) (h : AsynchronousOk z) : ACalls1 Tryd.prog 10 [asyIn a b c d e z] (asyOw z.v) := by
  refine walk (fun t => t == 1) mixed Go.Proofs.Tryd.func10 rfl rfl rfl (by kernel_rfl) rfl (by simp) (by kernel_rfl) ?_
  simp
  refine ⟨_, toInt64S_spec _ z.places h.2.2.1.1.1, ?_⟩
  simp
  refine ⟨_, toInt64S_spec _ z.sizes h.2.2.1.2.1.1, ?_⟩
  simp
  refine ⟨_, toInt64S_spec _ z.start h.2.2.1.2.2.1.1, ?_⟩
  simp
  refine ⟨_, toJointSL _ z.joints h.1, ?_⟩
  simp
  refine ⟨_, toInt64SSL _ z.final h.2.1, ?_⟩
  simp [AsyI.v]
theorem eqRowsL (rs : List (List Int)) (hl : rs.length ≤ 1048576) (h : ∀ r ∈ rs, ListOk r) : ACalls1 Tryd.prog 47 [.sl 1 true (srows true rs), .sl 1 true (srows true rs)] (bv true) := by
  refine walk (fun _ => false) mixed Go.Proofs.Tryd.func47 rfl rfl rfl (by kernel_rfl) rfl (by simp) (by kernel_rfl) ?_
  simp
  refine awp_loop2 [0, 1] [] (fun k : Nat => [(5, iv k)]) (fun _ => []) (fun k => k ≤ rs.length) (fun k => rs.length - k) 0 (weak_mk some (by simp) (by simp) rfl) (by simp) ?_
  intro k hk
  by_cases hlt : k < rs.length
  · simp [hlt]
    refine ⟨_, eqInt64SL _ _ _ (h _ (nthR_mem hlt)), ?_⟩
    simp [wrap_id ((k : Int) + 1) (by omega) (by omega)]
    exact Round.mk (k + 1) (weak_mk some (by simp) (by simp) rfl) hlt (by omega)
  · simp [hlt]
theorem eqAsynchronousL (z : AsyV) (h : AsyOk z) : ACalls1 Tryd.prog 14 [asySl z, asySl z] (bv true) := by
  refine walk (fun t => t == 2 || t == 3) mixed Go.Proofs.Tryd.func14 rfl rfl rfl (by kernel_rfl) rfl (by simp) (by kernel_rfl) ?_
  simp
  refine ⟨_, eqInt64SL _ _ z.places h.1, ?_⟩
  simp
  refine ⟨_, eqInt64SL _ _ z.sizes h.2.1, ?_⟩
  simp
  refine ⟨_, eqInt64SL _ _ z.start h.2.2.1, ?_⟩
  simp
  refine ⟨_, eqJointSL z.joints h.2.2.2.1.1 (fun j hj => (h.2.2.2.1.2 j hj).2), ?_⟩
  simp
  refine ⟨_, eqRowsL z.final h.2.2.2.2.1 h.2.2.2.2.2, ?_⟩
  simp
end Go.AM
