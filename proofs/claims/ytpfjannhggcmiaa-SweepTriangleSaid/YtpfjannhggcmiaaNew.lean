/- Contract of contract.New. -/
import Derived.Test.YtpfjannhggcmiaaElw
import Derived.Test.YtpfjannhggcmiaaEff
namespace Go.Proofs.Ytpfjannhggcmiaa
open Go.RowKit Go.Maps

/-! ### what operations do, at a frame -/
theorem enter_of {f : FuncId} {fn : Func} {c : Code} (hf : Try.prog.funcs[f]? = some fn) (hname : (fn.name == "runtime.NumGoroutine") = false) (hb : fn.body = some c) (args : Array Value) (w : World) :
    (callFunc f args).run Try.prog w = .ok (.enter f args) w := by
  have h1 : fn.name ≠ "runtime.NumGoroutine" := by simpa using hname
  simp [callFunc, hf, h1, hb]
theorem does_call1 {ρ : Operand → Value} {o : Oper} {w : World} {R : Value → World → Prop} {g : FuncId} {x : Operand} {v : Value} {ts : Array TypeId} (ho : o.op = .call { callee := .value (.func g), args := #[x], argTypes := ts })
    (hf : ρ (.func g) = .func (.func g) #[] #[]) (hx : ρ x = v) (he : ∀ args w, (callFunc g args).run Try.prog w = .ok (.enter g args) w) (h : Calls Try.prog g #[v] w fun e w'' => ∃ u, e = .returned u ∧ R u w'') : OpDoes Try.prog ρ o w R := by
  unfold OpDoes execOp
  simp [ho, resolve, invoke, Deferred.ofValue, hf, hx, he, h]
theorem does_make {ρ : Operand → Value} {o : Oper} {w w' : World} {R : Value → World → Prop} {x y : Operand} {v : Value} {t : TypeId} (ho : o.op = .makeSlice t x y) (hr : (Instr.makeSlice t (ρ x) (ρ y)).run Try.prog w = .ok v w') (h : R v w') : OpDoes Try.prog ρ o w R := by
  unfold OpDoes execOp
  simp [ho, hr, h]
theorem does_map {ρ : Operand → Value} {o : Oper} {w : World} {R : Value → World → Prop} {t : TypeId} (ho : o.op = .makeMap t none) (h : R (.map (some w.heap.size)) (w.alloc (.map #[] 0))) : OpDoes Try.prog ρ o w R := by
  unfold OpDoes execOp
  have hr : (Instr.makeMap t none).run Try.prog w = .ok (.map (some w.heap.size)) (w.alloc (.map #[] 0)) := rfl
  simp [ho, hr, h]
theorem EffS_gen {P : Program} {ops : Array Oper} {Q : Exit → Act → World → Prop} {S : World → Prop} {n : Nat} {es : Effs} {cs : List Nat} {deps : Nat → List Nat} {I : (Nat → Bool) → (Nat → Value) → World → Prop} {a0 : Act} {w : World}
    (h : ∀ a, a = a0 → EffS P ops Q S n es cs deps I a w) : EffS P ops Q S n es cs deps I a0 w := h a0 rfl

end Go.Proofs.Ytpfjannhggcmiaa
