/- A call of a Go function as one step of a region that draws its order (for go_region_law). -/
import Derived.Test.YthdaeddaofickaaLib
import Derived.Deep.RegionLaw
namespace Go.Proofs.Ythdaeddaofickaa
open Go.RowKit
section
variable {P : Program} {ops : Array Oper} {o : Oper} {a : Act} {W : World} {K : Act → World → Prop} {Q : Exit → Act → World → Prop} {E : Prop}
theorem step_call (hgd : o.guard = none) (f : FuncId) {fn : Func} {c : Code} (hf : P.funcs[f]? = some fn) (hname : (fn.name == "runtime.NumGoroutine") = false) (hb : fn.body = some c) (xs : Array Operand) (ts : Array TypeId)
    (ho : o.op = .call { callee := .value (.func f), args := xs, argTypes := ts }) (vs : Array Value) (hx : xs.map a.eval = vs)
    (h : Calls P f vs W fun e w' => ∃ u, e = .returned u ∧ K (a.put o.dst u) w') : if Region.wanted o (yielded ops a.tmps) = true then Oper.wp P o a W K Q else E := by
  have hw : Region.wanted o (yielded ops a.tmps) = true := by simp [Region.wanted, hgd]
  rw [if_pos hw]
  unfold Oper.wp
  have h1 : fn.name ≠ "runtime.NumGoroutine" := by simpa using hname
  have hcf : ∀ args w, (callFunc f args).run P w = .ok (.enter f args) w := fun args w => by simp [callFunc, hf, h1, hb]
  have he : (execOp a.eval o).run P W = .ok (.enter f vs) W := by
    simp [execOp, ho, resolve, invoke, hx, Act.eval, hcf, Deferred.ofValue]
  rw [he, Oper.upon_enter]
  refine h.mono ?_
  rintro e w' ⟨u, rfl, hk⟩
  exact hk
theorem step_call1 (hgd : o.guard = none) (f : FuncId) {fn : Func} {c : Code} (hf : P.funcs[f]? = some fn) (hname : (fn.name == "runtime.NumGoroutine") = false) (hb : fn.body = some c) (x0 : Operand) (t0 : TypeId)
    (ho : o.op = .call { callee := .value (.func f), args := #[x0], argTypes := #[t0] }) (v0 : Value) (h0 : a.eval x0 = v0)
    (h : Calls P f #[v0] W fun e w' => ∃ u, e = .returned u ∧ K (a.put o.dst u) w') : if Region.wanted o (yielded ops a.tmps) = true then Oper.wp P o a W K Q else E :=
  step_call hgd f hf hname hb _ _ ho #[v0] (by simp [h0]) h
theorem step_call2 (hgd : o.guard = none) (f : FuncId) {fn : Func} {c : Code} (hf : P.funcs[f]? = some fn) (hname : (fn.name == "runtime.NumGoroutine") = false) (hb : fn.body = some c) (x0 x1 : Operand) (t0 t1 : TypeId)
    (ho : o.op = .call { callee := .value (.func f), args := #[x0, x1], argTypes := #[t0, t1] }) (v0 v1 : Value) (h0 : a.eval x0 = v0) (h1 : a.eval x1 = v1)
    (h : Calls P f #[v0, v1] W fun e w' => ∃ u, e = .returned u ∧ K (a.put o.dst u) w') : if Region.wanted o (yielded ops a.tmps) = true then Oper.wp P o a W K Q else E :=
  step_call hgd f hf hname hb _ _ ho #[v0, v1] (by simp [h0, h1]) h
theorem step_call3 (hgd : o.guard = none) (f : FuncId) {fn : Func} {c : Code} (hf : P.funcs[f]? = some fn) (hname : (fn.name == "runtime.NumGoroutine") = false) (hb : fn.body = some c) (x0 x1 x2 : Operand) (t0 t1 t2 : TypeId)
    (ho : o.op = .call { callee := .value (.func f), args := #[x0, x1, x2], argTypes := #[t0, t1, t2] }) (v0 v1 v2 : Value) (h0 : a.eval x0 = v0) (h1 : a.eval x1 = v1) (h2 : a.eval x2 = v2)
    (h : Calls P f #[v0, v1, v2] W fun e w' => ∃ u, e = .returned u ∧ K (a.put o.dst u) w') : if Region.wanted o (yielded ops a.tmps) = true then Oper.wp P o a W K Q else E :=
  step_call hgd f hf hname hb _ _ ho #[v0, v1, v2] (by simp [h0, h1, h2]) h
theorem step_call4 (hgd : o.guard = none) (f : FuncId) {fn : Func} {c : Code} (hf : P.funcs[f]? = some fn) (hname : (fn.name == "runtime.NumGoroutine") = false) (hb : fn.body = some c) (x0 x1 x2 x3 : Operand) (t0 t1 t2 t3 : TypeId)
    (ho : o.op = .call { callee := .value (.func f), args := #[x0, x1, x2, x3], argTypes := #[t0, t1, t2, t3] }) (v0 v1 v2 v3 : Value) (h0 : a.eval x0 = v0) (h1 : a.eval x1 = v1) (h2 : a.eval x2 = v2) (h3 : a.eval x3 = v3)
    (h : Calls P f #[v0, v1, v2, v3] W fun e w' => ∃ u, e = .returned u ∧ K (a.put o.dst u) w') : if Region.wanted o (yielded ops a.tmps) = true then Oper.wp P o a W K Q else E :=
  step_call hgd f hf hname hb _ _ ho #[v0, v1, v2, v3] (by simp [h0, h1, h2, h3]) h
end
end Go.Proofs.Ythdaeddaofickaa
