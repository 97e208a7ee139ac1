/- Tables of rows that a call builds: a block of slices, each of which owns a row; ghost labels keep the rows of all tables apart. -/
import Derived.Test.YtpfjannhggcmiaaSets
namespace Go.Proofs.Ytpfjannhggcmiaa
open Go.RowKit Go.Maps

/-- Labels of blocks: the class of a block and its number in the class. -/
abbrev Lab := Nat → Nat × Nat

theorem own_same {w w' : World} {base n size : Nat} {e : TypeId} {v : Value} {xs : List Value} (h : w.ownsRow base e size v n xs) (hk : ∀ k, v.ownBlock = some k → w'.heap[k]? = w.heap[k]?) : w'.ownsRow base e size v n xs := by
  obtain ⟨h1, h2 | ⟨g, cap, cur, rfl, hb, hh, r⟩⟩ := h
  · exact ⟨h1, .inl h2⟩
  · exact ⟨h1, .inr ⟨g, cap, cur, rfl, hb, (hk g rfl).trans hh, r⟩⟩

theorem own_mono {w : World} {base base' n size : Nat} {e : TypeId} {v : Value} {xs : List Value} (h : w.ownsRow base e size v n xs) (hb : base' ≤ base) : w.ownsRow base' e size v n xs := by
  obtain ⟨h1, h2 | ⟨g, cap, cur, rfl, hg, r⟩⟩ := h
  · exact ⟨h1, .inl h2⟩
  · exact ⟨h1, .inr ⟨g, cap, cur, rfl, Nat.le_trans hb hg, r⟩⟩

/-- Block g is a table of rows of class c. -/
def TabAt (w : World) (lab : Lab) (c base g : Nat) (rows : List (List Nat)) : Prop :=
  base ≤ g ∧ lab g = (c, rows.length) ∧ ∃ vs : List Value, vs.length = rows.length ∧ w.heap[g]? = some (.cells vs.toArray 25 (0, 0)) ∧
    ∀ i, i < rows.length → w.ownsRow base 3 1 (vs.getD i undef) (rows.getD i []).length ((rows.getD i []).map natv) ∧ ∀ k, (vs.getD i undef).ownBlock = some k → lab k = (c, i)

theorem TabAt.lt {w : World} {lab : Lab} {c base g : Nat} {rows : List (List Nat)} (h : TabAt w lab c base g rows) : g < w.heap.size := by
  obtain ⟨_, _, vs, _, hh, _⟩ := h; exact blk_lt' hh
theorem TabAt.base_le {w : World} {lab : Lab} {c base g : Nat} {rows : List (List Nat)} (h : TabAt w lab c base g rows) : base ≤ g := h.1
theorem TabAt.blk {w : World} {lab : Lab} {c base g : Nat} {rows : List (List Nat)} (h : TabAt w lab c base g rows) : ∃ vs, w.heap[g]? = some (.cells vs 25 (0, 0)) := by
  obtain ⟨_, _, vs, _, hh, _⟩ := h; exact ⟨_, hh⟩
theorem TabAt.free {w : World} {lab : Lab} {c base g : Nat} {rows : List (List Nat)} (h : TabAt w lab c base g rows) (i : Nat) : w.frozen? ⟨g, i, none⟩ = false := by
  obtain ⟨vs, hh⟩ := h.blk; exact blk_free hh i

/-- A new table of n empty rows. -/
theorem TabAt.made {w : World} {c base g n : Nat} {lab : Lab} (hg : base ≤ g) (hl : lab g = (c, n)) (hh : w.heap[g]? = some (.cells (Array.replicate n (.slice none 0 0)) 25 (0, 0))) : TabAt w lab c base g (List.replicate n []) := by
  refine ⟨hg, by simpa using hl, List.replicate n (.slice none 0 0), by simp, by simpa using hh, fun i hi => ?_⟩
  have hi' : i < n := by simpa using hi
  have e1 : (List.replicate n (Value.slice none 0 0)).getD i undef = .slice none 0 0 := by simp [List.getD, hi']
  have e2 : (List.replicate n ([] : List Nat)).getD i [] = [] := by simp [List.getD, hi']
  rw [e1, e2]
  exact ⟨World.ownsRow_nil _ _ _ _, fun k hk => by simp [Value.ownBlock] at hk⟩

/-- A row of a table. -/
theorem TabAt.at_ {w : World} {lab : Lab} {c base g : Nat} {rows : List (List Nat)} (h : TabAt w lab c base g rows) {i : Nat} (hi : i < rows.length) :
    ∃ v, w.cell? ⟨g, i, none⟩ = some v ∧ w.ownsRow base 3 1 v (rows.getD i []).length ((rows.getD i []).map natv) ∧ (∀ k, v.ownBlock = some k → lab k = (c, i)) ∧ some g ≠ v.ownBlock := by
  obtain ⟨h1, h2, vs, h3, h4, h5⟩ := h
  obtain ⟨h6, h7⟩ := h5 i hi
  refine ⟨vs.getD i undef, ?_, h6, h7, own_ne h6 h4 (by decide)⟩
  rw [blk_cell' h4 i]
  have : i < vs.length := by omega
  simp [List.getD, this]

/-- What keeps every block of its class keeps the table. -/
theorem TabAt.frame {w w' : World} {lab lab' : Lab} {c base g : Nat} {rows : List (List Nat)} (h : TabAt w lab c base g rows) (hb : ∀ k, k < w.heap.size → (lab k).1 = c → w'.heap[k]? = w.heap[k]?) (hl : ∀ k, k < w.heap.size → lab' k = lab k) : TabAt w' lab' c base g rows := by
  have hlt := h.lt
  obtain ⟨h1, h2, vs, h3, h4, h5⟩ := h
  refine ⟨h1, (hl g hlt).trans h2, vs, h3, (hb g hlt (by rw [h2])).trans h4, fun i hi => ?_⟩
  obtain ⟨h6, h7⟩ := h5 i hi
  exact ⟨own_same h6 (fun k hk => hb k (h6.lt k hk).2 (by rw [h7 k hk])), fun k hk => (hl k (h6.lt k hk).2).trans (h7 k hk)⟩

/-- The labels after a row of class c has moved to a block of its own. -/
def relab (lab : Lab) (v : Value) (c i : Nat) : Lab := fun k => if v.ownBlock = some k then (c, i) else lab k
theorem relab_old {w : World} {lab : Lab} {v v' : Value} {c i : Nat} (hloc : v'.ownBlock = v.ownBlock ∨ ∃ k, v'.ownBlock = some k ∧ w.heap.size ≤ k) (hv : ∀ k, v.ownBlock = some k → lab k = (c, i)) (k : Nat) (hk : k < w.heap.size) : relab lab v' c i k = lab k := by
  unfold relab
  by_cases e : v'.ownBlock = some k
  · rw [if_pos e]
    rcases hloc with h | ⟨k', h, hk'⟩
    · exact (hv k (h.symm.trans e)).symm
    · rw [h] at e; cases e; omega
  · rw [if_neg e]
theorem relab_self (lab : Lab) (v : Value) (c i k : Nat) (h : v.ownBlock = some k) : relab lab v c i k = (c, i) := by unfold relab; rw [if_pos h]

/-- A row of the table is replaced by another. -/
theorem TabAt.put {w w1 : World} {lab lab' : Lab} {c base g i : Nat} {rows : List (List Nat)} {ys : List Nat} {v v' : Value} (h : TabAt w lab c base g rows) (hi : i < rows.length) (hv : w.cell? ⟨g, i, none⟩ = some v)
    (hg : w.grownBy w1 v.ownBlock) (hown : w1.ownsRow base 3 1 v' ys.length (ys.map natv))
    (hl : ∀ k, k < w.heap.size → lab' k = lab k) (hl' : ∀ k, v'.ownBlock = some k → lab' k = (c, i)) : TabAt (w1.setCell ⟨g, i, none⟩ v') lab' c base g (rows.set i ys) := by
  have hlt := h.lt
  obtain ⟨v0, hv0, ho0, hlab0, hne0⟩ := h.at_ hi
  rw [hv] at hv0
  cases hv0
  obtain ⟨h1, h2, vs, h3, h4, h5⟩ := h
  have h41 : w1.heap[g]? = some (.cells vs.toArray 25 (0, 0)) := blk_grown h4 hg hne0
  have hset := blk_set' h41 i v'
  refine ⟨h1, by rw [List.length_set]; exact (hl g hlt).trans h2, vs.set i v', by simp [h3], by simpa using hset, fun j hj => ?_⟩
  rw [List.length_set] at hj
  have hjv : j < vs.length := by omega
  by_cases e : j = i
  · subst e
    have e1 : (vs.set j v').getD j undef = v' := by simp [List.getD, hjv]
    have e2 : (rows.set j ys).getD j [] = ys := by simp [List.getD, hj]
    rw [e1, e2]
    refine ⟨own_same hown (fun k hk => Below.heap_setCell w1 _ v' k ?_), hl'⟩
    rintro rfl
    exact own_ne hown h41 (by decide) hk.symm
  · have e1 : (vs.set i v').getD j undef = vs.getD j undef := by simp [List.getD, List.getElem?_set, Ne.symm e]
    have e2 : (rows.set i ys).getD j [] = rows.getD j [] := by simp [List.getD, List.getElem?_set, Ne.symm e]
    rw [e1, e2]
    obtain ⟨h6, h7⟩ := h5 j hj
    refine ⟨own_same h6 (fun k hk => ?_), fun k hk => (hl k (h6.lt k hk).2).trans (h7 k hk)⟩
    rw [Below.heap_setCell w1 _ v' k (by rintro rfl; exact own_ne h6 h4 (by decide) hk.symm)]
    refine hg.block k (h6.lt k hk).2 (fun h => ?_)
    have e3 := h7 k hk
    have e4 := hlab0 k h.symm
    rw [e3] at e4
    cases e4
    exact e rfl

/-- A table read. -/
theorem TabAt.lists {w : World} {lab : Lab} {c base g : Nat} {rows : List (List Nat)} (h : TabAt w lab c base g rows) : Lists w (some ⟨g, 0, none⟩) rows := by
  refine .inr ⟨g, 0, rfl, h.lt, fun i hi => ?_⟩
  obtain ⟨v, hv, ho, _, _⟩ := h.at_ hi
  obtain ⟨A, c', rfl, hc, _, hN⟩ := own_nats ho
  exact ⟨A, c', by simpa using hv, hc, hN⟩

end Go.Proofs.Ytpfjannhggcmiaa
