/- What the arguments of the statements are in memory: integers, slices of integers, graphs. -/
import Derived.Test.YtpfjannhggcmiaaLiv
import Derived.ProofKit
import Derived.OpenShut
import Derived.ChangeOld
import Derived.Lib.SmallJoins
import Derived.Deep.Slices
namespace Go.Proofs.Ytpfjannhggcmiaa
open Go.RowKit Go.Maps Go.ChangeShapes Go.WideShapes Go.Joins Go.Deep

theorem own : ownKnob Try.prog.godebug = none := by kernel_rfl
theorem wfr {n : Int} (h : (Lit.int .i64 n).wf = true) : -9223372036854775808 ≤ n ∧ n ≤ 9223372036854775807 := by
  simp only [Lit.wf, Bool.and_eq_true, decide_eq_true_eq] at h
  have e1 : IntKind.i64.min = -9223372036854775808 := by decide
  have e2 : IntKind.i64.max = 9223372036854775807 := by decide
  omega
theorem lt_of_cell {w : World} {a : Addr} {v : Value} (h : w.cell? a = some v) : a.block < w.heap.size := by
  unfold World.cell? at h
  cases hb : w.heap[a.block]? with
  | none => rw [hb] at h; simp at h
  | some o => exact (Array.getElem?_eq_some_iff.1 hb).1
theorem exists_list {α : Type} (d : α) {Q : Nat → α → Prop} : ∀ n : Nat, (∀ i, i < n → ∃ p, Q i p) → ∃ xs : List α, xs.length = n ∧ ∀ i, i < n → Q i (xs.getD i d)
  | 0, _ => ⟨[], rfl, fun i hi => by omega⟩
  | n + 1, h => by
    obtain ⟨xs, hl, hx⟩ := exists_list d n (fun i hi => h i (by omega))
    obtain ⟨p, hp⟩ := h n (by omega)
    refine ⟨xs ++ [p], by simp [hl], fun i hi => ?_⟩
    by_cases e : i = n
    · subst e; rw [← hl, getD_append_at]; rw [hl]; exact hp
    · rw [getD_append_left' _ _ _ _ (by omega)]; exact hx i (by omega)

theorem add_none (b o i : Nat) : (⟨b, o, none⟩ : Addr).add i = ⟨b, o + i, none⟩ := by
  unfold Addr.add
  split <;> simp_all

section
variable {H : Type} {enc : TypeId × Value → H} {w : World} {base : Nat} {held : Bool}
/-- A slice of integers that came in. -/
theorem open_intsI {fuel : Nat} {cs : List Value} {x : DataW H × List MemPlace} (h : DataW.trod enc Try.prog w base (fun _ => true) held fuel 25 cs = some x) :
    ∃ (A : Option Addr) (c : Nat) (xs : List Int), cs = [.slice A xs.length c] ∧ xs.length ≤ 9223372036854775807 ∧ Ints w A xs := by
  rcases ChangeShapes.open_ints Try.underlying25 Try.underlying3 (by kernel_rfl) h with ⟨hcs, _⟩ | ⟨a, len, cap, zs, hcs, _, hl, hm, hz, _, hcell, _⟩
  · exact ⟨none, 0, [], hcs, by simp, .inl rfl⟩
  · simp only [if_true] at hz
    have ht : (zs.take len).length = len := by rw [List.length_take]; omega
    refine ⟨some a, cap, zs.take len, by rw [ht]; exact hcs, by rw [ht]; unfold maxLen at hm; omega, ?_⟩
    by_cases h0 : len = 0
    · exact .inl (by rw [ht]; exact h0)
    · obtain ⟨b, o, spot⟩ := a
      have h1 := hcell 0 (by omega)
      have hs : spot = none := by simpa [Addr.add] using World.cell?_spot h1
      subst hs
      refine .inr ⟨b, o, rfl, by simpa [Addr.add] using lt_of_cell h1, fun i hi => ?_⟩
      rw [ht] at hi
      have h2 := hcell i (by omega)
      have e : (zs.take len).getD i 0 = zs.getD i 0 := by simp [List.getD, List.getElem?_take, hi]
      unfold intc
      rw [e, ← h2, add_none]
set_option maxRecDepth 100000 in
/-- A slice of arcs that came in. -/
theorem open_arcsI {fuel : Nat} {cs : List Value} {x : DataW H × List MemPlace} (h : DataW.trod enc Try.prog w base (fun _ => true) held fuel 22 cs = some x) :
    ∃ (A : Option Addr) (c : Nat) (xs : List (Int × Int)), cs = [.slice A xs.length c] ∧ xs.length ≤ 9223372036854775807 ∧ ArcsI w A xs := by
  rcases Deep.open_slice Try.underlying22 h with ⟨hcs, _⟩ | ⟨a, len, cap, m, n, D, Pl, hcs, _, hl, hm, hmm, _, hi⟩
  · exact ⟨none, 0, [], hcs, by simp, .inl rfl⟩
  · simp only [if_true] at hmm
    have hC : Try.prog.cellsOf 48 = 2 := by kernel_rfl
    have hCi : Try.prog.cellsOf 3 = 1 := by kernel_rfl
    obtain ⟨xs, hxl, hx⟩ := exists_list ((0, 0) : Int × Int) (Q := fun i p => w.cell? (a.add (i * 2)) = some (.int .i64 p.1) ∧ w.cell? (a.add (i * 2 + 1)) = some (.int .i64 p.2)) len (fun i hlt => by
      obtain ⟨cs', hc, ht⟩ := hi i (by omega)
      rw [hC] at hc
      obtain ⟨y0, y1, n', hy, hlen, g0, g1⟩ := trod_struct2 Try.underlying48 ht
      obtain ⟨_, hcl, hat⟩ := World.cells?_some hc
      obtain ⟨v0, v1, rfl⟩ : ∃ v0 v1, cs' = [v0, v1] := by
        match cs', hcl with
        | [v0, v1], _ => exact ⟨v0, v1, rfl⟩
      simp [hCi] at g0 g1
      obtain ⟨p, e0, _, _⟩ := DataW.trod_int Try.underlying3 g0
      obtain ⟨q, e1, _, _⟩ := DataW.trod_int Try.underlying3 g1
      simp at e0 e1
      subst e0 e1
      have h0 := hat 0 (by omega)
      have h1 := hat 1 (by omega)
      refine ⟨(p, q), ?_, ?_⟩
      · simpa [Addr.add] using h0
      · rw [← Go.Deep.add_add]
        simpa using h1)
    refine ⟨some a, cap, xs, by rw [hxl]; exact hcs, by rw [hxl]; unfold maxLen at hm; omega, ?_⟩
    by_cases h0 : len = 0
    · exact .inl (by rw [hxl]; exact h0)
    · obtain ⟨b, o, spot⟩ := a
      have h1 := (hx 0 (by omega)).1
      have hs : spot = none := by simpa [Addr.add] using World.cell?_spot h1
      subst hs
      refine .inr ⟨b, o, rfl, by simpa [Addr.add] using lt_of_cell h1, fun i hi => ?_⟩
      rw [hxl] at hi
      have := hx i hi
      rw [add_none, add_none, ← Nat.add_assoc] at this
      exact this
set_option maxRecDepth 100000 in
/-- A graph that came in. -/
theorem open_graph {r : Reach} {b0 : Nat} {v : Value} {d : DataW H} {p : List MemPlace} (hv : Value.okWide Try.prog w r b0 24 v) (h : DataW.Trod enc Try.prog w base (fun _ => true) held 24 v d p) :
    ∃ (n : Int) (A : Option Addr) (c : Nat) (xs : List (Int × Int)), v = .agg #[.int .i64 n, .slice A xs.length c] ∧ xs.length ≤ 9223372036854775807 ∧ ArcsI w A xs ∧ (Lit.int .i64 n).wf = true := by
  obtain ⟨c0, c1, y0, y1, m, rfl, rfl, rfl, hy0, hy1⟩ := open_agg2 Try.underlying24 (by kernel_rfl) (by kernel_rfl : Try.prog.cellsOf 24 = 2) hv h
  obtain ⟨n, e0, _, wn⟩ := DataW.trod_int Try.underlying3 hy0
  obtain ⟨A, c, xs, e1, hl, hA⟩ := open_arcsI hy1
  simp at e0 e1
  subst e0 e1
  exact ⟨n, A, c, xs, rfl, hl, hA, wn⟩
theorem open_intsV {v : Value} {d : DataW H} {p : List MemPlace} (hv : ∃ a l c, v = .slice a l c) (h : DataW.Trod enc Try.prog w base (fun _ => true) held 25 v d p) :
    ∃ (A : Option Addr) (c : Nat) (xs : List Int), v = .slice A xs.length c ∧ xs.length ≤ 9223372036854775807 ∧ Ints w A xs := by
  obtain ⟨a, l, cc, rfl⟩ := hv
  obtain ⟨fuel, hf⟩ := h
  obtain ⟨A, c, xs, e, hl, hI⟩ := open_intsI hf
  simp [Value.cells] at e
  obtain ⟨rfl, rfl, rfl⟩ := e
  exact ⟨_, _, xs, rfl, hl, hI⟩
end

end Go.Proofs.Ytpfjannhggcmiaa
