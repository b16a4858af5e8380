/-
  A walk in which the state may be told weaker behind one drawn region (captured variables are frozen there).
-/
import Derived.Test.YtnimmbjbinpajaaDoorAmTac
set_option linter.unusedVariables false
set_option maxRecDepth 100000
namespace Go.AM
theorem WkK.mk {K : St → Prop} {st st' : St} (h : Weak st st') (h2 : K st') : WkK K st := ⟨st', h, h2⟩
/-- Two nodes are from now on written by nobody. -/
theorem WkK.frz2 {K : St → Prop} {l ol : List (Nat × AV)} {n : Nat} (a b : Nat) {X Y : AV} (hX : asO ol a = some X) (hn : nrf X = true) (hY : asO (frzO a X ol) b = some Y) (hm : nrf Y = true)
    (h : K ⟨asS (frzS b Y (frzS a X l)), asO (frzO b Y (frzO a X ol)), n⟩) : WkK K ⟨asS l, asO ol, n⟩ := WkK.mk (Weak.trans (weak_frz a hX hn) (weak_frz b hY hm)) h
/-- As `drawG`, but weaker behind the region whose first slot is `x`. -/
def drawW (P : Program) (fz : Nat → Bool) (x : Nat) (ops : Array Oper) (st : St) (K : St → Prop) : Prop := selP (firstDst ops.toList == x) (drawG P fz ops st (WkK K)) (drawG P fz ops st K)
theorem drawW_eq {P : Program} {fz : Nat → Bool} {x : Nat} {ops : Array Oper} {st : St} {K : St → Prop} : drawW P fz x ops st K = selP (firstDst ops.toList == x) (drawG P fz ops st (WkK K)) (drawG P fz ops st K) := Eq.trans rfl rfl
theorem region_w {P : Program} {fz : Nat → Bool} {x : Nat} {Q : Exit → St → Prop} {st : St} {id : Nat} {ops : Array Oper} : awp P fz (drawW P fz x) (.region id ops true) Q st = drawW P fz x ops st (Q .normal) := Eq.trans rfl rfl
attribute [simp ↓ high] drawW_eq region_w
theorem walkW {P : Program} {f : FuncId} {fn : Func} {code : Code} {rs : List ResultVar} {n : Nat} {args : List AV} {r : AV} (fz : Nat → Bool) (x : Nat) (hm : P.follows .mixedOrders = true)
    (hf : P.funcs[f]? = some fn) (hb : fn.body = some code) (hrs : fn.results.toList = rs) (hn : fn.ntmps = n) (hname : (fn.name == "runtime.NumGoroutine") = false) (himm : immL args = true) (hlen : args.length ≤ n) (hcb : codeB drawR code = true)
    (h : awp P fz (drawW P fz x) code (endQ P rs r) (st0 args n)) : ACalls1 P f args r := by
  subst hrs
  subst hn
  refine acalls_of (R := drawR) (fun c id ops K st a w Q hR hQ hst hK => ?_) hf hb hname himm hlen hcb h
  unfold drawW at hK
  cases hx : (firstDst ops.toList == x) with
  | false => rw [hx, selP_f] at hK; exact drawG_ok hm hR c id K st a w Q hQ hst hK
  | true =>
    rw [hx, selP_t] at hK
    refine drawG_ok hm hR c id (WkK K) st a w Q (fun st a w h hk => ?_) hst hK
    obtain ⟨st', hw, hk⟩ := hk
    exact hQ st' a w (hw c a w h) hk
end Go.AM
