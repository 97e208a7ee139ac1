/- Contract of Metric.weights: first part, the state of its first statement. -/
import Derived.Test.YtpfjannhggcmiaaOut
namespace Go.Proofs.Ytpfjannhggcmiaa
open Go.RowKit Go.Maps

/-- What the first statement of weights has left so far. -/
structure WtI (W0 : World) (n : Nat) (E edges : List (Nat × Nat)) (e : Nat) (done : Nat → Bool) (f : Nat → Value) (w : World) : Prop where
  bel : Below W0.heap.size W0 w
  i4 : done 4 = true → ∃ v, f 4 = .agg #[.int .i64 (n : Int), v] ∧ w.ownsRow W0.heap.size 48 2 v E.length (arcvs E)
  i9 : done 9 = true → w.ownsRow W0.heap.size 48 2 (f 9) edges.length (arcvs edges)
  i11 : done 11 = true → done 9 = true ∧ ∃ g c, f 9 = .slice (some ⟨g, 0, none⟩) edges.length c ∧ f 11 = .pointer (some ⟨g, e * 2, none⟩)
  i12 : done 12 = true → f 12 = .agg #[.int .i64 (((edges.getD e (0, 0)).1 : Nat) : Int), .int .i64 (((edges.getD e (0, 0)).2 : Nat) : Int)]
  i13 : done 13 = true → ∃ g x y, f 13 = .pointer (some ⟨g, 0, none⟩) ∧ W0.heap.size ≤ g ∧ w.heap[g]? = some (.cells #[x, y] 24 (0, 0)) ∧ (done 15 = true → f 4 = .agg #[x, y])
  i14 : done 14 = true → ∃ g x y, f 14 = .pointer (some ⟨g, 0, none⟩) ∧ W0.heap.size ≤ g ∧ w.heap[g]? = some (.cells #[x, y] 48 (0, 0))
  i15 : done 15 = true → done 13 = true ∧ done 4 = true
  ne : done 4 = true → done 14 = true → ∀ v g, f 4 = .agg #[.int .i64 (n : Int), v] → f 14 = .pointer (some ⟨g, 0, none⟩) → some g ≠ v.ownBlock

section
variable {W0 w w' : World} {n : Nat} {E edges : List (Nat × Nat)} {e : Nat} {done : Nat → Bool} {f : Nat → Value}
theorem WtI.grow (h : WtI W0 n E edges e done f w) (hb : Below w.heap.size w w') : WtI W0 n E edges e done f w' where
  bel := below_then' h.bel hb
  i4 := fun hd => by obtain ⟨v, h1, h2⟩ := h.i4 hd; exact ⟨v, h1, own_below h2 hb⟩
  i9 := fun hd => own_below (h.i9 hd) hb
  i11 := h.i11
  i12 := h.i12
  i13 := fun hd => by obtain ⟨g, x, y, h1, h2, h3, h4⟩ := h.i13 hd; exact ⟨g, x, y, h1, h2, blk_below h3 hb, h4⟩
  i14 := fun hd => by obtain ⟨g, x, y, h1, h2, h3⟩ := h.i14 hd; exact ⟨g, x, y, h1, h2, blk_below h3 hb⟩
  i15 := h.i15
  ne := h.ne
/-- The graph has been copied. -/
theorem WtI.add4 (h : WtI W0 n E edges e done f w) (hd : done 4 = false) (hb : Below w.heap.size w w') {v : Value} (hv : w'.ownsRow w.heap.size 48 2 v E.length (arcvs E)) : WtI W0 n E edges e (setD done 4) (setF f 4 (.agg #[.int .i64 (n : Int), v])) w' := by
  have h' := h.grow hb
  have n15 : done 15 = false := by
    cases h15 : done 15 with
    | false => rfl
    | true => have := (h.i15 h15).2; rw [hd] at this; cases this
  exact {
    bel := h'.bel
    i4 := fun _ => ⟨v, rfl, own_mono hv h.bel.size⟩
    i9 := h'.i9
    i11 := h'.i11
    i12 := h'.i12
    i13 := fun h13 => by
      obtain ⟨g, x, y, h1, h2, h3, _⟩ := h'.i13 h13
      exact ⟨g, x, y, h1, h2, h3, fun h15 => by rw [show setD done 4 15 = done 15 from rfl, n15] at h15; cases h15⟩
    i14 := h'.i14
    i15 := fun h15 => by rw [show setD done 4 15 = done 15 from rfl, n15] at h15; cases h15
    ne := fun _ h14 v2 g hv2 hg hown => by
      have e1 : v = v2 := by
        have : Value.agg #[.int .i64 (n : Int), v] = .agg #[.int .i64 (n : Int), v2] := hv2
        simpa using this
      subst e1
      obtain ⟨g2, x, y, h1, _, h3⟩ := h.i14 h14
      have e2 : g = g2 := by
        have : f 14 = .pointer (some ⟨g, 0, none⟩) := hg
        rw [h1] at this
        simpa using this.symm
      subst e2
      have := (hv.lt g hown.symm).1
      have := blk_lt' h3
      omega }
theorem WtI.add9 (h : WtI W0 n E edges e done f w) (hd : done 9 = false) {v : Value} (hv : w.ownsRow W0.heap.size 48 2 v edges.length (arcvs edges)) : WtI W0 n E edges e (setD done 9) (setF f 9 v) w where
  bel := h.bel
  i4 := h.i4
  i9 := fun _ => hv
  i11 := fun h11 => by have := (h.i11 h11).1; rw [hd] at this; cases this
  i12 := h.i12
  i13 := h.i13
  i14 := h.i14
  i15 := h.i15
  ne := h.ne
theorem WtI.add11 (h : WtI W0 n E edges e done f w) (hd : done 9 = true) {g c : Nat} (h9 : f 9 = .slice (some ⟨g, 0, none⟩) edges.length c) : WtI W0 n E edges e (setD done 11) (setF f 11 (.pointer (some ⟨g, e * 2, none⟩))) w where
  bel := h.bel
  i4 := h.i4
  i9 := h.i9
  i11 := fun _ => ⟨hd, g, c, h9, rfl⟩
  i12 := h.i12
  i13 := h.i13
  i14 := h.i14
  i15 := h.i15
  ne := h.ne
theorem WtI.add12 (h : WtI W0 n E edges e done f w) {v : Value} (hv : v = .agg #[.int .i64 (((edges.getD e (0, 0)).1 : Nat) : Int), .int .i64 (((edges.getD e (0, 0)).2 : Nat) : Int)]) : WtI W0 n E edges e (setD done 12) (setF f 12 v) w where
  bel := h.bel
  i4 := h.i4
  i9 := h.i9
  i11 := h.i11
  i12 := fun _ => hv
  i13 := h.i13
  i14 := h.i14
  i15 := h.i15
  ne := h.ne
theorem WtI.add13 (h : WtI W0 n E edges e done f w) (hd : done 13 = false) (x y : Value) : WtI W0 n E edges e (setD done 13) (setF f 13 (.pointer (some ⟨w.heap.size, 0, none⟩))) (w.alloc (.cells #[x, y] 24)) := by
  have h' := h.grow (below_alloc' (Below.refl _ w) (.cells #[x, y] 24))
  have n15 : done 15 = false := by
    cases h15 : done 15 with
    | false => rfl
    | true => have := (h.i15 h15).1; rw [hd] at this; cases this
  exact {
    bel := h'.bel
    i4 := h'.i4
    i9 := h'.i9
    i11 := h'.i11
    i12 := h'.i12
    i13 := fun _ => ⟨w.heap.size, x, y, rfl, h.bel.size, new_blk w _ _, fun h15 => by rw [show setD done 13 15 = done 15 from rfl, n15] at h15; cases h15⟩
    i14 := h'.i14
    i15 := fun h15 => by rw [show setD done 13 15 = done 15 from rfl, n15] at h15; cases h15
    ne := h'.ne }
theorem WtI.add14 (h : WtI W0 n E edges e done f w) (x y : Value) : WtI W0 n E edges e (setD done 14) (setF f 14 (.pointer (some ⟨w.heap.size, 0, none⟩))) (w.alloc (.cells #[x, y] 48)) := by
  have h' := h.grow (below_alloc' (Below.refl _ w) (.cells #[x, y] 48))
  exact {
    bel := h'.bel
    i4 := h'.i4
    i9 := h'.i9
    i11 := h'.i11
    i12 := h'.i12
    i13 := h'.i13
    i14 := fun _ => ⟨w.heap.size, x, y, rfl, h.bel.size, new_blk w _ _⟩
    i15 := h'.i15
    ne := fun h4 _ v g hv hg hown => by
      obtain ⟨v2, h1, h2⟩ := h.i4 h4
      have e1 : v2 = v := by
        have : f 4 = .agg #[.int .i64 (n : Int), v] := hv
        rw [h1] at this
        simpa using this
      subst e1
      have e2 : g = w.heap.size := by
        have : Value.pointer (some ⟨w.heap.size, 0, none⟩) = .pointer (some ⟨g, 0, none⟩) := hg
        simpa using this.symm
      have := (h2.lt g hown.symm).2
      omega }
/-- The graph has been stored. -/
theorem WtI.add15 (h : WtI W0 n E edges e done f w) (h13 : done 13 = true) (h4 : done 4 = true) {g : Nat} {v : Value} (hg : f 13 = .pointer (some ⟨g, 0, none⟩)) (hv : f 4 = .agg #[.int .i64 (n : Int), v]) (u : Value) :
    WtI W0 n E edges e (setD done 15) (setF f 15 u) ((w.setCell ⟨g, 0, none⟩ (.int .i64 (n : Int))).setCell ⟨g, 1, none⟩ v) := by
  obtain ⟨g', x, y, hg', hW, hblk, _⟩ := h.i13 h13
  have e1 : g' = g := by rw [hg] at hg'; simpa using hg'.symm
  subst e1
  have hb2 := blk_set' (blk_set' hblk 0 (.int .i64 (n : Int))) 1 v
  have far : ∀ k, k ≠ g' → ((w.setCell ⟨g', 0, none⟩ (.int .i64 (n : Int))).setCell ⟨g', 1, none⟩ v).heap[k]? = w.heap[k]? := fun k hk => (Below.heap_setCell _ _ _ k hk).trans (Below.heap_setCell _ _ _ k hk)
  have own : ∀ {m : Nat} {v2 : Value} {xs : List Value}, w.ownsRow W0.heap.size 48 2 v2 m xs → ((w.setCell ⟨g', 0, none⟩ (.int .i64 (n : Int))).setCell ⟨g', 1, none⟩ v).ownsRow W0.heap.size 48 2 v2 m xs :=
    fun h2 => own_same h2 (fun k hk => far k (by rintro rfl; exact own_ne h2 hblk (by decide) hk.symm))
  exact {
    bel := (h.bel.setCell hW _).setCell hW _
    i4 := fun h4' => by obtain ⟨v2, h1, h2⟩ := h.i4 h4'; exact ⟨v2, h1, own h2⟩
    i9 := fun hd => own (h.i9 hd)
    i11 := h.i11
    i12 := h.i12
    i13 := fun _ => ⟨g', .int .i64 (n : Int), v, hg, hW, by simpa using hb2, fun _ => hv⟩
    i14 := fun hd => by
      obtain ⟨g2, x2, y2, h1, h2, h3⟩ := h.i14 hd
      exact ⟨g2, x2, y2, h1, h2, (far g2 (cells_ne h3 hblk (by decide))).trans h3⟩
    i15 := fun _ => ⟨h13, h4⟩
    ne := h.ne }
end

/-! ### a, b := find(..): the state of such a statement -/
structure FindI (W0 : World) (a b : Value) (done : Nat → Bool) (f : Nat → Value) (w : World) : Prop where
  bel : Below W0.heap.size W0 w
  i7 : done 7 = true → f 7 = .tuple #[a, b]
  i8 : done 8 = true → f 8 = .tuple #[a, b]
  i9 : done 9 = true → f 9 = a
  i10 : done 10 = true → f 10 = b
  i11 : done 11 = true → f 11 = a
section
variable {W0 w w' : World} {a b : Value} {done : Nat → Bool} {f : Nat → Value}
theorem FindI.add7 (h : FindI W0 a b done f w) (hb : Below w.heap.size w w') : FindI W0 a b (setD done 7) (setF f 7 (.tuple #[a, b])) w' := ⟨below_then' h.bel hb, fun _ => rfl, h.i8, h.i9, h.i10, h.i11⟩
theorem FindI.add8 (h : FindI W0 a b done f w) : FindI W0 a b (setD done 8) (setF f 8 (.tuple #[a, b])) w := ⟨h.bel, h.i7, fun _ => rfl, h.i9, h.i10, h.i11⟩
theorem FindI.add9 (h : FindI W0 a b done f w) : FindI W0 a b (setD done 9) (setF f 9 a) w := ⟨h.bel, h.i7, h.i8, fun _ => rfl, h.i10, h.i11⟩
theorem FindI.add10 (h : FindI W0 a b done f w) : FindI W0 a b (setD done 10) (setF f 10 b) w := ⟨h.bel, h.i7, h.i8, h.i9, fun _ => rfl, h.i11⟩
theorem FindI.add11 (h : FindI W0 a b done f w) : FindI W0 a b (setD done 11) (setF f 11 a) w := ⟨h.bel, h.i7, h.i8, h.i9, h.i10, fun _ => rfl⟩
end
theorem does_move {ρ : Operand → Value} {o : Oper} {w : World} {R : Value → World → Prop} {x : Operand} {v : Value} (ho : o.op = .move x) (hx : ρ x = v) (h : R v w) : OpDoes Try.prog ρ o w R := by
  unfold OpDoes execOp
  simp [ho, hx, h]
theorem does_assign {ρ : Operand → Value} {o : Oper} {w : World} {R : Value → World → Prop} {x : Operand} {v : Value} (ho : o.op = .assign x) (hx : ρ x = v) (h : R v w) : OpDoes Try.prog ρ o w R := by
  unfold OpDoes execOp
  simp [ho, hx, h]

theorem does_call3 {ρ : Operand → Value} {o : Oper} {w : World} {R : Value → World → Prop} {g : FuncId} {x y z : Operand} {vx vy vz : Value} {ts : Array TypeId} (ho : o.op = .call { callee := .value (.func g), args := #[x, y, z], argTypes := ts })
    (hf : ρ (.func g) = .func (.func g) #[] #[]) (hx : ρ x = vx) (hy : ρ y = vy) (hz : ρ z = vz) (he : ∀ args w, (callFunc g args).run Try.prog w = .ok (.enter g args) w) (h : Calls Try.prog g #[vx, vy, vz] w fun e w'' => ∃ u, e = .returned u ∧ R u w'') : OpDoes Try.prog ρ o w R := by
  unfold OpDoes execOp
  simp [ho, resolve, invoke, Deferred.ofValue, hf, hx, hy, hz, he, h]

end Go.Proofs.Ytpfjannhggcmiaa
