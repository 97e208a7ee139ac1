/- Contracts of dijkstra.Check on correct weights, and of custom.copied. -/
import Derived.Test.YtpfjannhggcmiaaRef4
import Derived.Test.YtpfjannhggcmiaaNew
import Derived.Laws.CopyOwn
namespace Go.Proofs.Ytpfjannhggcmiaa
open Go.RowKit Go.Maps

def oddW (x : Int) : Bool := decide (x < -1) || decide (1073741824 < x)
set_option maxHeartbeats 1000000 in
theorem odd_any (x : Int) (W : World) : FnGives Try.prog 95 #[] #[.int .i64 x] (.bool (oddW x)) W := by
  unfold FnGives
  by_cases h : x < -1
  · have h1 : decide (x < -1) = true := decide_eq_true h
    have e : oddW x = true := by unfold oddW; rw [h1]; rfl
    rw [e]
    show Calls Try.prog 95 #[.int .i64 x] W _
    clear e
    go_enter Try.func95, Try.ntmps95
    go_wp2
    go_ret
    exact ⟨rfl, 0, rfl⟩
  · have h1 : decide (x < -1) = false := decide_eq_false h
    have e : oddW x = decide (1073741824 < x) := by unfold oddW; rw [h1]; rfl
    rw [e]
    show Calls Try.prog 95 #[.int .i64 x] W _
    clear e
    go_enter Try.func95, Try.ntmps95
    go_wp2
    go_ret
    exact ⟨rfl, 0, rfl⟩

theorem any_odd (ws : List Int) (h : WOk ws) : ws.any oddW = false := by
  rw [List.any_eq_false]
  intro x hx
  obtain ⟨i, hi, rfl⟩ := List.getElem_of_mem hx
  have := h i hi
  simp [List.getD, hi] at this
  unfold oddW
  simp
  omega
def RetOk (w : World) (en : Ending) (w' : World) : Prop := en = .returned (.int .i64 0) ∧ Below w.heap.size w w'
/-- ContainsFunc finds no weight out of range. -/
theorem contains_none (B : Option Addr) (ws : List Int) (d : Nat) (w : World) (hw : Ints w B ws) (hl : ws.length ≤ 4194304) (hok : WOk ws) :
    Calls Try.prog 96 #[.slice B ws.length d, .func (.func 95) #[] #[]] w fun e w' => e = .returned (.bool false) ∧ Below w.heap.size w w' := by
  rcases hw with h0 | ⟨b, o, rfl, hb, hc⟩
  · rw [h0]
    refine (Try.slices_ContainsFunc_empty (α := Int) B d _ w).mono ?_
    rintro e w' ⟨rfl, rfl⟩
    exact ⟨rfl, Below.refl _ _⟩
  · refine (Try.slices_ContainsFunc (Value.int .i64) oddW 95 #[] (fun args w => enter_of Try.func95 (by kernel_rfl) rfl args w) b o ws.length d ws w (fun W x _ => odd_any x W) (Nat.le_refl _) (by omega) (fun j hj => ?_)).mono ?_
    · rw [hc j hj]
      simp [intc, List.getD, hj]
    · rintro e w' ⟨rfl, q, rfl⟩
      rw [List.take_length, any_odd ws hok]
      exact ⟨rfl, below_drewN' (Below.refl _ _) _⟩

set_option maxRecDepth 100000 in
set_option maxHeartbeats 4000000 in
theorem dijkstra_ok (n : Nat) (E : List (Nat × Nat)) (ws : List Int) (A B : Option Addr) (c d : Nat) (w : World) (hG : GraphOk n E ws) (hr : Arcs w A E) (hw : Ints w B ws) :
    Calls Try.prog 72 #[.agg #[.int .i64 (n : Int), .slice A E.length c], .slice B ws.length d] w (RetOk w) := by
  have hn := hG.n_le
  have hel := hG.e_le
  have hwl := hG.w_len
  have Hr := hid hr
  have Hw := hid hw
  have HG := hid hG
  have Hwl := hid hwl
  have hwb : ws.length ≤ 4194304 := by omega
  have e1 : ((ws.length : Int) != (E.length : Int)) = false := by rw [hwl]; simp
  have e2 : (ws.length != E.length) = false := by rw [hwl]; simp
  clear hr hw hG hwl
  go_enter Try.func72, Try.ntmps72
  go_wp2_with fail
  rw [← toI_length E]
  refine (graphcheck n A (toI E) c _ (arcs_toI.1 (by exact Hr.out.below (below_alloc' (Below.refl _ _) _))) (by omega) (by omega) (by rw [toI_length]; exact hel)).mono ?_
  rintro e w1 ⟨r, rfl, hr0, hb⟩
  obtain rfl : r = 0 := hr0.2 HG.out.arcs
  rw [toI_length E] at hb ⊢
  have hb1 : Below w.heap.size w w1 := below_then' (below_alloc' (Below.refl _ _) _) hb
  have kb : w1.heap[w.heap.size]? = some (.cells #[.int .i64 (n : Int), .slice A E.length c] 24 (0, 0)) := blk_below (new_blk w _ _) hb
  have b1 : w1.cell? ⟨w.heap.size, 1, none⟩ = some (.slice A E.length c) := blk_cell' kb 1
  have bl := blk_lt' kb
  have Hb1 := hid hb1
  clear hb1 hb kb hr0
  go_wp2_with fail
  refine (contains_none B ws d w1 (Hw.out.below Hb1.out) hwb HG.out.w_ok).mono ?_
  rintro e w2 ⟨rfl, hb⟩
  have HB := hid (below_then' Hb1.out hb)
  clear hb b1 bl
  go_wp2
  go_ret
  exact ⟨rfl, HB.out⟩

/-! ### copied -/
/-- A new block with the integers is returned. -/
def RetBlk (w : World) (xs : List Int) (en : Ending) (w' : World) : Prop :=
  ∃ g, en = .returned (.slice (some ⟨g, 0, none⟩) xs.length xs.length) ∧ w.heap.size ≤ g ∧ w'.heap[g]? = some (.cells (xs.map intv).toArray 3 (0, 0)) ∧ Below w.heap.size w w'
theorem blk_ints {w : World} {g : Nat} {xs : List Int} {t : TypeId} {fr : Nat × Nat} (h : w.heap[g]? = some (.cells (xs.map intv).toArray t fr)) : Ints w (some ⟨g, 0, none⟩) xs := by
  refine .inr ⟨_, 0, rfl, blk_lt' h, fun i hi => ?_⟩
  rw [blk_cell' h]
  simp [intc, intv, List.getD, hi]
theorem splice_all {α : Type} (cur xs : List α) (h : cur.length = xs.length) : splice cur 0 xs = xs := by
  simp [splice, h]
theorem info_int_size : (Try.prog.info? 3).map (·.size) = some 1 := by kernel_rfl
/-- What copy does to a new row. -/
theorem copy_new (B : Option Addr) (xs : List Int) (c : Nat) (w W1 : World) (g : Nat) (hx : Ints w B xs) (hb : Below w.heap.size w W1) (hg : W1.heap[g]? = some (.cells (Array.replicate xs.length (.int .i64 0)) 3 (0, 0))) (hwg : w.heap.size ≤ g) :
    ∃ W2, (Builtin.copy_ #[25, 25] 3 #[.slice (some ⟨g, 0, none⟩) xs.length xs.length, .slice B xs.length c]).run Try.prog W1 = .ok (.int .i64 (xs.length : Int)) W2 ∧ W2.heap[g]? = some (.cells (xs.map intv).toArray 3 (0, 0)) ∧ Below w.heap.size w W2 := by
  by_cases h0 : xs.length = 0
  · obtain rfl : xs = [] := List.length_eq_zero_iff.1 h0
    refine ⟨W1, ?_, by simpa using hg, hb⟩
    have := run_copy_none (P := Try.prog) W1 25 25 3 3 (some ⟨g, 0, none⟩) B 0 0 0 c Try.underlying25 info_int_size (by simp)
    exact this
  · obtain ⟨b, o, rfl, hb', hc⟩ := Row.get hx (by omega)
    have hsrc : ∀ j v, (xs.map intv)[j]? = some v → W1.cell? ((⟨b, o, none⟩ : Addr).add j) = some v := by
      intro j v hj
      rw [List.getElem?_map] at hj
      have hj' : j < xs.length := by
        rcases Nat.lt_or_ge j xs.length with h | h
        · exact h
        · rw [List.getElem?_eq_none h] at hj; cases hj
      rw [List.getElem?_eq_getElem hj'] at hj
      simp at hj
      have h3 := cell_later hb (hc j hj')
      have h4 : (⟨b, o, none⟩ : Addr).add j = ⟨b, o + j, none⟩ := by unfold Addr.add; split <;> simp_all
      rw [h4, h3, ← hj]
      simp [intc, intv, List.getD, hj']
    have := run_copy_row (P := Try.prog) W1 25 25 3 3 g 0 xs.length xs.length ⟨b, o, none⟩ xs.length c (Array.replicate xs.length (.int .i64 0)) 3 (xs.map intv) Try.underlying25 info_int_size hg (by simp) hsrc (by simp) (by intro v hv; obtain ⟨x, _, rfl⟩ := List.mem_map.1 hv; rfl)
    have e1 : (((Array.replicate xs.length (Value.int .i64 0)).toList.take 0 ++ xs.map intv ++ (Array.replicate xs.length (Value.int .i64 0)).toList.drop (0 + (xs.map intv).length)).toArray) = (xs.map intv).toArray := by simp
    rw [e1] at this
    have e2 : goInt (xs.map intv).length = .int .i64 (xs.length : Int) := by simp [goInt]
    rw [e2] at this
    exact ⟨W1.setRow g (xs.map intv).toArray, this, setRow_heap W1 g _ _ _ _ hg, below_setRow hb hwg _⟩
set_option maxRecDepth 100000 in
set_option maxHeartbeats 2000000 in
theorem copied_any (B : Option Addr) (xs : List Int) (c : Nat) (w : World) (hx : Ints w B xs) (hl : xs.length ≤ 1099511627776) :
    Calls Try.prog 74 #[.slice B xs.length c] w (RetBlk w xs) := by
  have hmk := run_make_ints xs.length hl
  have hcopy := copy_new B xs c w (w.alloc (.cells (Array.replicate xs.length (.int .i64 0)) 3)) w.heap.size hx (below_alloc' (Below.refl _ _) _) (new_blk w _ _) (Nat.le_refl _)
  obtain ⟨W2, hcp, hblk, hb2⟩ := hcopy
  have Hblk := hid hblk
  have Hb2 := hid hb2
  clear hx hblk hb2
  go_enter Try.func74, Try.ntmps74
  go_wp2
  go_ret
  exact ⟨_, rfl, Nat.le_refl _, Hblk.out, Hb2.out⟩

end Go.Proofs.Ytpfjannhggcmiaa
