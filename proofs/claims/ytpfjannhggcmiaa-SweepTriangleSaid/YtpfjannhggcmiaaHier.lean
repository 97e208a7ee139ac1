/- Contracts of the small functions of a hierarchy and of a metric: what they return, that nothing that was there has changed. -/
import Derived.Test.YtpfjannhggcmiaaBase
import Derived.Test.YtpfjannhggcmiaaData
namespace Go.Proofs.Ytpfjannhggcmiaa
open Go.RowKit Go.Maps

/-! ### owned rows read -/
def natv (x : Nat) : Value := .int .i64 (x : Int)
def intv (x : Int) : Value := .int .i64 x
theorem info_int : (Try.prog.info? 3).map (fun i => (i.zero, i.size, i.bytes)) = some (some (.int .i64 0), 1, 8) := by kernel_rfl
theorem info_arc : (Try.prog.info? 48).map (fun i => (i.zero, i.size, i.bytes)) = some (some (.agg #[.int .i64 0, .int .i64 0]), 2, 16) := by kernel_rfl
theorem info_ints : (Try.prog.info? 25).map (fun i => (i.zero, i.size, i.bytes)) = some (some (.slice none 0 0), 1, 24) := by kernel_rfl

theorem own_row {w : World} {base n size : Nat} {e : TypeId} {v : Value} {xs : List Value} (h : w.ownsRow base e size v n xs) :
    ∃ A c, v = .slice A n c ∧ n ≤ c ∧ Fresh base A ∧ Row w A (n * size) (fun i => xs.getD i undef) := by
  obtain ⟨hl, ⟨rfl, rfl⟩ | ⟨g, cap, cur, rfl, hb, hh, hn, hc, hs, rfl⟩⟩ := h
  · exact ⟨none, 0, rfl, Nat.le_refl _, Fresh.none _, .inl (by simp)⟩
  · refine ⟨_, _, rfl, hn, fun ad e => by cases e; exact hb, .inr ⟨g, 0, rfl, blk_lt' hh, fun i hi => ?_⟩⟩
    have : i < cur.size := by rw [hs]; exact Nat.lt_of_lt_of_le hi (Nat.mul_le_mul_right _ hn)
    simp only [World.cell?, hh, Nat.zero_add]
    simp [List.getD, hi, this]

theorem own_nats {w : World} {base : Nat} {e : TypeId} {v : Value} {xs : List Nat} (h : w.ownsRow base e 1 v xs.length (xs.map natv)) :
    ∃ A c, v = .slice A xs.length c ∧ xs.length ≤ c ∧ Fresh base A ∧ Nats w A xs := by
  obtain ⟨A, c, hv, hc, hf, hr⟩ := own_row h
  refine ⟨A, c, hv, hc, hf, ?_⟩
  rcases hr with h0 | ⟨b, o, hA, hb, hcell⟩
  · exact .inl (by omega)
  · refine .inr ⟨b, o, hA, hb, fun i hi => (hcell i (by omega)).trans ?_⟩
    simp [natc, natv, List.getD, hi]
theorem own_ints {w : World} {base : Nat} {e : TypeId} {v : Value} {xs : List Int} (h : w.ownsRow base e 1 v xs.length (xs.map intv)) :
    ∃ A c, v = .slice A xs.length c ∧ xs.length ≤ c ∧ Fresh base A ∧ Ints w A xs := by
  obtain ⟨A, c, hv, hc, hf, hr⟩ := own_row h
  refine ⟨A, c, hv, hc, hf, ?_⟩
  rcases hr with h0 | ⟨b, o, hA, hb, hcell⟩
  · exact .inl (by omega)
  · refine .inr ⟨b, o, hA, hb, fun i hi => (hcell i (by omega)).trans ?_⟩
    simp [intc, intv, List.getD, hi]

/-! ### blocks beside rows -/
theorem blk_grown {w w' : World} {row : Option Nat} {g : Nat} {o : Obj} (h : w.heap[g]? = some o) (hg : w.grownBy w' row) (hne : some g ≠ row) : w'.heap[g]? = some o := (hg.block g (blk_lt' h) hne).trans h
theorem own_ne {w : World} {base n size g : Nat} {e t : TypeId} {v : Value} {xs : List Value} {cs : Array Value} {fr : Nat × Nat} (h : w.ownsRow base e size v n xs) (hg : w.heap[g]? = some (.cells cs t fr)) (hne : e ≠ t) : some g ≠ v.ownBlock := by
  obtain ⟨_, ⟨rfl, _⟩ | ⟨b, cap, cur, rfl, _, hh, _⟩⟩ := h
  · simp [Value.ownBlock]
  · intro hb
    simp only [Value.ownBlock, Option.some.injEq] at hb
    subst hb
    rw [hg] at hh
    injection hh with hh
    injection hh with _ hh
    exact hne hh.symm
theorem own_set {w : World} {base n cap g : Nat} {e : TypeId} {xs : List Value} (h : w.ownsRow base e 1 (.slice (some ⟨g, 0, none⟩) n cap) n xs) (j : Nat) (u : Value) :
    (w.setCell ⟨g, j, none⟩ u).ownsRow base e 1 (.slice (some ⟨g, 0, none⟩) n cap) n (xs.set j u) := (h.stored j u).1
theorem own_lt {w : World} {base n cap g size : Nat} {e : TypeId} {xs : List Value} {A : Addr} (h : w.ownsRow base e size (.slice (some A) n cap) n xs) : A.block < w.heap.size ∧ base ≤ A.block := by
  have := h.lt A.block rfl
  omega

/-! ### append of one element to a row of the call's own, at the operation; the element lies in a block that was just laid -/
theorem wp_app1 {W : World} {ops : Array Oper} {rest : List Oper} {o : Oper} {a : Act} {Q : Exit → Act → World → Prop} (hgd : o.guard = none) (s x : Operand) (t e : TypeId) (z : Value) (size bytes : Nat)
    (ho : o.op = .call { callee := .builtin .append, args := #[s, x], argTypes := #[t, t] })
    (ht : Try.prog.underlying t = some (.slice e)) (hinfo : (Try.prog.info? e).map (fun i => (i.zero, i.size, i.bytes)) = some (some z, size, bytes)) (hzs : z.cells.size = size) (hsz : 0 < size)
    (base n : Nat) (v : Value) (xs cs : List Value) (hs : a.eval s = v) (hx : a.eval x = .slice (some ⟨W.heap.size, 0, none⟩) 1 1) (hown : W.ownsRow base e size v n xs)
    (hcs : cs.length = size) (h1 : ∀ u ∈ cs, u.oneCell' = true) (h63 : n < 9223372036854775807) (hbytes : (n + 1) * bytes ≤ 140737488355328) (hbase : base ≤ W.heap.size)
    (h : ∀ v' w', w'.ownsRow base e size v' (n + 1) (xs ++ cs) → W.grownBy w' v.ownBlock → (v'.ownBlock = v.ownBlock ∨ ∃ k, v'.ownBlock = some k ∧ W.heap.size ≤ k) → wpList Try.prog ops Q rest (a.put o.dst v') w') :
    wpList Try.prog ops Q (o :: rest) a (W.alloc (.cells cs.toArray e)) := by
  obtain ⟨i0, hi, hz0, hz1, hz2⟩ := info_parts hinfo
  refine wpList_append_own_at (P := Try.prog) (w := W.alloc (.cells cs.toArray e)) hgd s x t ho base e i0 z size bytes ht hi hz0 hz1 hz2 hzs hsz v n xs hs (hown.alloc _) ⟨W.heap.size, 0, none⟩ 1 1 cs hx (by omega) ?_ h1 (by unfold maxLen; omega) hbytes (by simp; omega) ?_
  · intro j u hj
    have e0 : (W.alloc (.cells cs.toArray e)).heap[W.heap.size]? = some (.cells cs.toArray e (0, 0)) := new_blk W _ _
    have := blk_cell' e0 j
    unfold Addr.add
    simp only [Nat.zero_add]
    split
    · simp_all
    · simp_all
  · intro v' w' h1 h2 _ h4
    refine h v' w' h1 ((World.grownBy_alloc W _ _).trans h2) ?_
    rcases h4 with h4 | h4
    · exact .inl h4
    · exact .inr ⟨_, h4, by simp⟩

/-! ### results -/
/-- A new row of values is returned, owned by the caller; nothing that was there has changed. -/
def RetOwn (w : World) (e : TypeId) (size n : Nat) (xs : List Value) (en : Ending) (w' : World) : Prop :=
  ∃ v, en = .returned v ∧ w'.ownsRow w.heap.size e size v n xs ∧ Below w.heap.size w w'
def RetNats (w : World) (xs : List Nat) (en : Ending) (w' : World) : Prop :=
  ∃ A c, en = .returned (.slice A xs.length c) ∧ xs.length ≤ c ∧ Fresh w.heap.size A ∧ Nats w' A xs ∧ Below w.heap.size w w'
def RetArcs (w : World) (xs : List (Nat × Nat)) (en : Ending) (w' : World) : Prop :=
  ∃ A c, en = .returned (.slice A xs.length c) ∧ xs.length ≤ c ∧ Fresh w.heap.size A ∧ Arcs w' A xs ∧ Below w.heap.size w w'

/-! ### slices.Clone -/
theorem cells_row {w : World} {b o n : Nat} {cs : Nat → Value} (h : ∀ i, i < n → w.cell? ⟨b, o + i, none⟩ = some (cs i)) : ∀ j u, ((List.range n).map cs)[j]? = some u → w.cell? ((⟨b, o, none⟩ : Addr).add j) = some u := by
  intro j u hj
  rw [List.getElem?_map] at hj
  by_cases hjn : j < n
  · rw [List.getElem?_range hjn] at hj
    simp at hj
    rw [← hj, ← h j hjn]
    unfold Addr.add
    split <;> simp_all
  · rw [List.getElem?_eq_none (by simpa using hjn)] at hj
    simp at hj

set_option maxHeartbeats 1000000 in
theorem clone_int (A : Option Addr) (n c : Nat) (cs : Nat → Value) (w : World) (hr : Row w A n cs) (h1 : ∀ i, i < n → (cs i).oneCell' = true) (hn : n * 8 ≤ 140737488355328) :
    Calls Try.prog 69 #[.slice A n c] w (RetOwn w 3 1 n ((List.range n).map cs)) := by
  obtain ⟨i0, hi, hz0, hz1, hz2⟩ := info_parts info_int
  have hne := fun (A : Option Addr) (n c : Nat) (W : World) => Lib.run_eql_slice_nil (P := Try.prog) W 25 3 A n c 0 0 Try.underlying25
  have H1 := hid h1
  clear h1
  cases A with
  | none =>
    have h0 : n = 0 := by
      rcases hr with h | ⟨b, o, h, _⟩
      · omega
      · cases h
    subst h0
    clear hr
    go_enter Try.func69, Try.ntmps69
    go_wp2
    go_ret
    exact ⟨_, rfl, World.ownsRow_nil _ _ _ _, Below.refl _ _⟩
  | some ad =>
    have Hn : Hid (∀ j u, ((List.range n).map cs)[j]? = some u → w.cell? (ad.add j) = some u) := by
      rcases hr with h | ⟨b, o, h, _, hc⟩
      · intro j u hj
        obtain rfl : n = 0 := by omega
        simp at hj
      · cases h
        exact cells_row hc
    clear hr
    go_enter Try.func69, Try.ntmps69
    go_wp2_with (first
      | (at_builtin; refine wpList_append_own _ rfl _ _ 25 rfl w.heap.size 3 i0 (.int .i64 0) 1 8 Try.underlying25 hi hz0 hz1 hz2 rfl (by decide) _ 0 [] rfl ?c1 ad n c ((List.range n).map cs) rfl ?c2 ?c3 ?c4 ?c5 ?c6 ?c7 ?_))
    case c1 => exact World.ownsRow_made (base := w.heap.size) w #[] 0 (Nat.le_refl _) (by unfold maxLen; omega) (by simp)
    case c2 => simp
    case c3 =>
      intro j u hj
      have := Hn.out j u hj
      exact cell_later ((Below.refl _ _).alloc (Nat.le_refl _) _) this
    case c4 =>
      intro u hu
      obtain ⟨i, hi, rfl⟩ := List.mem_map.1 hu
      exact H1.out i (by simpa using hi)
    case c5 => unfold maxLen; omega
    case c6 => omega
    case c7 => simp
    intro v' w1 hown hgrow hnil
    have Hown := hid hown
    have Hgrow := hid hgrow
    clear hown hgrow hnil
    go_wp2
    go_ret
    refine ⟨v', rfl, by simpa using Hown.out, ((Below.refl _ _).alloc (Nat.le_refl _) _).grown Hgrow.out (by simp) (fun k hk => by simp [Value.ownBlock] at hk; omega)⟩

set_option maxHeartbeats 1000000 in
theorem clone_arc (A : Option Addr) (n c : Nat) (cs : Nat → Value) (w : World) (hr : Row w A (n * 2) cs) (h1 : ∀ i, i < (n * 2) → (cs i).oneCell' = true) (hn : n * 16 ≤ 140737488355328) :
    Calls Try.prog 68 #[.slice A n c] w (RetOwn w 48 2 n ((List.range (n * 2)).map cs)) := by
  obtain ⟨i0, hi, hz0, hz1, hz2⟩ := info_parts info_arc
  have hne := fun (A : Option Addr) (n c : Nat) (W : World) => Lib.run_eql_slice_nil (P := Try.prog) W 22 48 A n c 0 0 Try.underlying22
  have H1 := hid h1
  clear h1
  cases A with
  | none =>
    have h0 : n = 0 := by
      rcases hr with h | ⟨b, o, h, _⟩
      · omega
      · cases h
    subst h0
    clear hr
    go_enter Try.func68, Try.ntmps68
    go_wp2
    go_ret
    exact ⟨_, rfl, World.ownsRow_nil _ _ _ _, Below.refl _ _⟩
  | some ad =>
    have Hn : Hid (∀ j u, ((List.range (n * 2)).map cs)[j]? = some u → w.cell? (ad.add j) = some u) := by
      rcases hr with h | ⟨b, o, h, _, hc⟩
      · intro j u hj
        obtain rfl : n = 0 := by omega
        simp at hj
      · cases h
        exact cells_row hc
    clear hr
    go_enter Try.func68, Try.ntmps68
    go_wp2_with (first
      | (at_builtin; refine wpList_append_own _ rfl _ _ 22 rfl w.heap.size 48 i0 (.agg #[.int .i64 0, .int .i64 0]) 2 16 Try.underlying22 hi hz0 hz1 hz2 rfl (by decide) _ 0 [] rfl ?c1 ad n c ((List.range (n * 2)).map cs) rfl ?c2 ?c3 ?c4 ?c5 ?c6 ?c7 ?_))
    case c1 => exact World.ownsRow_made (base := w.heap.size) w #[] 0 (Nat.le_refl _) (by unfold maxLen; omega) (by simp)
    case c2 => simp
    case c3 =>
      intro j u hj
      have := Hn.out j u hj
      exact cell_later ((Below.refl _ _).alloc (Nat.le_refl _) _) this
    case c4 =>
      intro u hu
      obtain ⟨i, hi, rfl⟩ := List.mem_map.1 hu
      exact H1.out i (by simpa using hi)
    case c5 => unfold maxLen; omega
    case c6 => omega
    case c7 => simp
    intro v' w1 hown hgrow hnil
    have Hown := hid hown
    have Hgrow := hid hgrow
    clear hown hgrow hnil
    go_wp2
    go_ret
    refine ⟨v', rfl, by simpa using Hown.out, ((Below.refl _ _).alloc (Nat.le_refl _) _).grown Hgrow.out (by simp) (fun k hk => by simp [Value.ownBlock] at hk; omega)⟩

end Go.Proofs.Ytpfjannhggcmiaa
