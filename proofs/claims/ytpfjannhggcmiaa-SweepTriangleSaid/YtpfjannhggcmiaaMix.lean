/- A region that draws its order: reads (under a condition on the world) and forced steps, in any mixture; the last operation waits for all. -/
import Derived.Test.YtpfjannhggcmiaaNew
namespace Go.Proofs.Ytpfjannhggcmiaa
open Go.RowKit Go.Maps

section
variable {P : Program} {ops : Array Oper} {Q : Exit → Act → World → Prop} {md : Region.Mode} {S : World → Prop}

/-- Steps, one after another: a read (true) yields its value in every world that meets S; a forced step (false) is carried out and keeps S. -/
def mixS (P : Program) (ops : Array Oper) (Q : Exit → Act → World → Prop) (S : World → Prop) (n : Nat) : List (Nat × Bool) → Act → World → Prop
  | [], a, w => wpOp P ops Q n (fun a' w' => Q .normal a' w') a w
  | (i, true) :: rest, a, w => ∃ o v, ops[i]? = some o ∧ YieldsIf P ops S o v a ∧ mixS P ops Q S n rest (a.put o.dst v) w
  | (i, false) :: rest, a, w => wpOp P ops Q i (fun a' w' => S w' ∧ mixS P ops Q S n rest a' w') a w
def mixB (md : Region.Mode) (ops : Array Oper) (n : Nat) : List (Nat × Bool) → Array Bool → Bool
  | [], listed => decide (Region.ready md ops listed = [n]) && decide (Region.ready md ops (listed.setIfInBounds n true) = [])
  | (i, true) :: rest, listed => (Region.ready md ops listed).contains i && Region.free md ops listed i && decide (i < n) && mixB md ops n rest (listed.setIfInBounds i true)
  | (i, false) :: rest, listed => decide (Region.ready md ops listed = [i]) && decide (i < n) && mixB md ops n rest (listed.setIfInBounds i true)
def planM (md : Region.Mode) (ops : Array Oper) (n : Nat) (ps : List (Nat × Bool)) : Bool :=
  Region.noSelect ops && decide (ops.size = n + 1) && decide (ps.length = n) && Region.sinkB md ops n && mixB md ops n ps (Array.replicate ops.size false)

theorem wpAnyT_mix {n : Nat} (hn : ops.size = n + 1) (hsink : Region.sinkB md ops n = true) (hsel : Region.noSelect ops = true) (hQ : ∀ c a (d : Option Tmp) v w, Q (.panic c) (a.put d v) w → Q (.panic c) a w) :
    ∀ (ps : List (Nat × Bool)) (listed : Array Bool) (a : Act) (w : World), HeadInv md ops n listed → mixB md ops n ps listed = true → S w → mixS P ops Q S n ps a w → wpAnyT P md ops Q S n (ps.length + 1) listed a w
  | [], listed, a, w, _, hB, _, h => by
    simp only [mixB, Bool.and_eq_true, decide_eq_true_eq] at hB
    refine ⟨fun h0 => (by rw [hB.1] at h0; cases h0), fun i hi => ?_⟩
    rw [hB.1] at hi
    obtain rfl : i = n := by simpa using hi
    exact wpOp_mono (fun a' w' h' => ⟨fun h0 => absurd rfl h0, hB.2, h'⟩) h
  | (i, true) :: ps, listed, a, w, inv, hB, hS, h => by
    simp only [mixB, Bool.and_eq_true, decide_eq_true_eq] at hB
    obtain ⟨⟨⟨hr, hf⟩, hin⟩, hB⟩ := hB
    obtain ⟨o, v, ho, hy, h⟩ := h
    have hr' : i ∈ Region.ready md ops listed := by simpa using hr
    have := wpAnyT_mix hn hsink hsel hQ ps (listed.setIfInBounds i true) _ w (inv.set hr' hin) hB hS h
    exact wpAnyT_first hn hsink ho hin (Region.noSelect_spec hsel) (fun c a w => hQ c a _ _ w) _ listed a w inv (Region.free_spec ho hf) hr' hy hS this
  | (i, false) :: ps, listed, a, w, inv, hB, _, h => by
    simp only [mixB, Bool.and_eq_true, decide_eq_true_eq] at hB
    obtain ⟨⟨hr, hin⟩, hB⟩ := hB
    refine ⟨fun h0 => (by rw [hr] at h0; cases h0), fun j hj => ?_⟩
    have hj' := hj
    rw [hr] at hj
    obtain rfl : j = i := by simpa using hj
    exact wpOp_mono (fun a' w' h' => ⟨fun _ => h'.1, wpAnyT_mix hn hsink hsel hQ ps _ a' w' (inv.set hj' hin) hB h'.1 h'.2⟩) h

theorem wp_region_mix {id : Nat} {a : Act} {w : World} (S : World → Prop) (n : Nat) (ps : List (Nat × Bool)) (hm : P.follows .mixedOrders = true) (hB : planM .any ops n ps = true) (hS : S w.drew)
    (h : mixS P ops (NoPanic Q) S n ps a w.drew) : (Code.region id ops true).wp P Q a w := by
  simp only [planM, Bool.and_eq_true, decide_eq_true_eq] at hB
  obtain ⟨⟨⟨⟨hsel, hn⟩, hl⟩, hsink⟩, hB⟩ := hB
  refine wp_region_noPanic (wp_region_any hm ?_)
  have inv0 : HeadInv .any ops n (Array.replicate ops.size false) :=
    ⟨by simp, fun j oj _ hl => (by rw [getD_replicate_false] at hl; cases hl), fun t _ ht => getD_in (by simpa using ht) (getD_replicate_false _ _)⟩
  have := wpAny_of_T _ _ _ _ (wpAnyT_mix (Q := NoPanic Q) (S := S) hn hsink hsel (fun _ _ _ _ _ h => h) ps _ a w.drew inv0 hB hS h)
  rw [hl, ← hn] at this
  exact this

theorem mix_take {n i : Nat} {rest : List (Nat × Bool)} {o : Oper} {v : Value} {a : Act} {w : World} (hi : ops[i]? = some o) (hw : Region.wanted o (yielded ops a.tmps) = true) (hy : ∀ w, S w → (execOp a.eval o).run P w = .ok (.value v) w)
    (h : mixS P ops Q S n rest (a.put o.dst v) w) : mixS P ops Q S n ((i, true) :: rest) a w := ⟨o, v, hi, .inl ⟨hw, hy⟩, h⟩
theorem mix_off {n i : Nat} {rest : List (Nat × Bool)} {o : Oper} {a : Act} {w : World} (hi : ops[i]? = some o) (hw : Region.wanted o (yielded ops a.tmps) = false)
    (h : mixS P ops Q S n rest (a.put o.dst undef) w) : mixS P ops Q S n ((i, true) :: rest) a w := ⟨o, undef, hi, .inr ⟨hw, rfl⟩, h⟩
theorem mix_step {i n : Nat} {rest : List (Nat × Bool)} {o : Oper} {a : Act} {w : World} (hi : ops[i]? = some o)
    (h : ∀ K' : Act → World → Prop, Shut (∀ a w, S w → mixS P ops Q S n rest a w → K' a w) → if Region.wanted o (yielded ops a.tmps) = true then Oper.wp P o a w K' Q else K' (a.put o.dst undef) w) : mixS P ops Q S n ((i, false) :: rest) a w := by
  have := h (fun a' w' => S w' ∧ mixS P ops Q S n rest a' w') (fun a w hs hc => ⟨hs, hc⟩)
  unfold mixS wpOp
  simp only [hi]
  split
  · rename_i hw; rw [if_pos hw] at this; exact .inl this
  · rename_i hw; rw [if_neg hw] at this; exact this
theorem mix_last {n : Nat} {o : Oper} {a : Act} {w : World} (hi : ops[n]? = some o)
    (h : ∀ K' : Act → World → Prop, Shut (∀ a w, Q .normal a w → K' a w) → if Region.wanted o (yielded ops a.tmps) = true then Oper.wp P o a w K' Q else K' (a.put o.dst undef) w) : mixS P ops Q S n [] a w := by
  have := h (fun a' w' => Q .normal a' w') (fun a w hq => hq)
  unfold mixS wpOp
  simp only [hi]
  split
  · rename_i hw; rw [if_pos hw] at this; exact .inl this
  · rename_i hw; rw [if_neg hw] at this; exact this
theorem mix_call {i n : Nat} {rest : List (Nat × Bool)} {o : Oper} {a : Act} {w : World} (hi : ops[i]? = some o) (hg : o.guard = none)
    (h : OpDoes P a.eval o w (fun u w' => S w' ∧ mixS P ops Q S n rest (a.put o.dst u) w')) : mixS P ops Q S n ((i, false) :: rest) a w :=
  wpOp_of_does hi hg h (fun _ _ h => h)
end
theorem does_callN {ρ : Operand → Value} {o : Oper} {w : World} {R : Value → World → Prop} {g : FuncId} {x : Operand} {xs : Array Operand} {vs : Array Value} {ts : Array TypeId} (ho : o.op = .call { callee := .value x, args := xs, argTypes := ts })
    (hf : ρ x = .func (.func g) #[] #[]) (hv : xs.map ρ = vs) (he : ∀ args w, (callFunc g args).run Try.prog w = .ok (.enter g args) w) (h : Calls Try.prog g vs w fun e w'' => ∃ u, e = .returned u ∧ R u w'') : OpDoes Try.prog ρ o w R := by
  unfold OpDoes execOp
  simp [ho, resolve, invoke, Deferred.ofValue, hf, hv, he, h]
theorem mix_callN {ops : Array Oper} {Q : Exit → Act → World → Prop} {S : World → Prop} {i n : Nat} {rest : List (Nat × Bool)} {a : Act} {w : World} {x : Operand} {xs : Array Operand} {ts : Array TypeId} {d : Option Tmp} {g : FuncId} {vs : Array Value}
    (ho : (ops[i]?).map (fun o => (o.op, o.dst, o.guard)) = some (.call { callee := .value x, args := xs, argTypes := ts }, d, none))
    (hf : a.eval x = .func (.func g) #[] #[]) (hv : xs.map a.eval = vs) (he : ∀ args w, (callFunc g args).run Try.prog w = .ok (.enter g args) w)
    (h : Calls Try.prog g vs w fun e w'' => ∃ u, e = .returned u ∧ S w'' ∧ mixS Try.prog ops Q S n rest (a.put d u) w'') : mixS Try.prog ops Q S n ((i, false) :: rest) a w := by
  cases hi : ops[i]? with
  | none => rw [hi] at ho; cases ho
  | some o =>
    rw [hi] at ho
    simp only [Option.map_some, Option.some.injEq, Prod.mk.injEq] at ho
    obtain ⟨h1, h2, h3⟩ := ho
    refine mix_call hi h3 ?_
    rw [h2]
    exact does_callN h1 hf hv he h
theorem HD.ok.num_lt2 {D : HD} (h : D.ok) {u v e : Nat} (hf : D.find u v = some e) : e < D.edges.length := by
  unfold HD.find at hf
  split at hf
  · exact h.num_lt _ _ _ hf
  · exact h.num_lt _ _ _ hf
theorem find_lt {D : HD} (h : D.ok) (u v : Nat) (h0 : 0 < D.edges.length) : (D.find u v).getD 0 < D.edges.length := by
  unfold HD.find
  split
  · cases e : D.num v u with
    | none => exact h0
    | some i => exact h.num_lt _ _ _ e
  · cases e : D.num u v with
    | none => exact h0
    | some i => exact h.num_lt _ _ _ e

end Go.Proofs.Ytpfjannhggcmiaa
