/- The walk of the statement SweepTriangle: it returns true for every input. -/
import Derived.Test.YtpfjannhggcmiaaLw1
namespace Go.Proofs.Ytpfjannhggcmiaa
open Go.RowKit Go.Maps

/-! ### plain -/
/-- The distance of v is attained over one of the first k arcs. -/
def Att (E : List (Nat × Nat)) (ws d : List Int) (k v : Nat) : Prop := ∃ i, i < k ∧ 0 ≤ ws.getD i 0 ∧ d.getD (E.getD i (0, 0)).1 0 < INF ∧ (E.getD i (0, 0)).2 = v ∧ d.getD v 0 = d.getD (E.getD i (0, 0)).1 0 + ws.getD i 0
theorem dist_le {n : Nat} {E : List (Nat × Nat)} {ws d : List Int} {s : Nat} (h : IsDist n E ws s d) (hE : EndsOk n E) {i u v : Nat} (hi : i < E.length) (he : E.getD i (0, 0) = (u, v)) (hw : 0 ≤ ws.getD i 0) (hf : d.getD u 0 < INF) : d.getD v 0 ≤ d.getD u 0 + ws.getD i 0 := by
  have hb := hE i hi
  rw [he] at hb
  exact (h.2 v hb.2).2.2 _ (.step ((h.2 u hb.1).2.1 hf) hi he hw)
theorem dist_att {n : Nat} {E : List (Nat × Nat)} {ws d : List Int} {s : Nat} (h : IsDist n E ws s d) (hE : EndsOk n E) (hs : s < n) {v : Nat} (hv : v < n) (hne : v ≠ s) (hf : d.getD v 0 < INF) : Att E ws d E.length v := by
  have hw := (h.2 v hv).2.1 hf
  generalize hc : d.getD v 0 = c at hw
  cases hw with
  | nil => exact absurd rfl hne
  | @step u v' c' i hu hi he hwi =>
    have hb := hE i hi
    rw [he] at hb
    have h1 := (h.2 u hb.1).2.2 _ hu
    have h2 := hu.nonneg
    have hfu : d.getD u 0 < INF := by unfold INF at *; omega
    have h3 := dist_le h hE hi he hwi hfu
    refine ⟨i, hi, hwi, by rw [he]; exact hfu, by rw [he], ?_⟩
    rw [he]
    simp only
    omega
theorem dist_nonneg {n : Nat} {E : List (Nat × Nat)} {ws d : List Int} {s : Nat} (h : IsDist n E ws s d) {v : Nat} (hv : v < n) : 0 ≤ d.getD v 0 ∧ d.getD v 0 ≤ 1152921504606846976 := by
  have h1 := h.2 v hv
  refine ⟨?_, h1.1⟩
  by_cases hf : d.getD v 0 < 1152921504606846976
  · exact (h1.2.1 hf).nonneg
  · omega
theorem dist_zero {n : Nat} {E : List (Nat × Nat)} {ws d : List Int} {s : Nat} (h : IsDist n E ws s d) (hs : s < n) : d.getD s 0 = 0 := by
  have h1 := (h.2 s hs).2.2 0 .nil
  have h2 := dist_nonneg h hs
  omega
/-- The marks behind the first k arcs. -/
def Marks (n : Nat) (E : List (Nat × Nat)) (ws d : List Int) (s k : Nat) (bs : List Bool) : Prop := bs.length = n ∧ ∀ v, v < n → (bs.getD v false = true ↔ v = s ∨ Att E ws d k v)
theorem Marks.start {n : Nat} (E : List (Nat × Nat)) (ws d : List Int) {s : Nat} (hs : s < n) : Marks n E ws d s 0 ((List.replicate n false).set s true) := by
  refine ⟨by simp, fun v hv => ?_⟩
  have hno : ¬ Att E ws d 0 v := fun ⟨i, hi, _⟩ => by omega
  by_cases e : s = v
  · subst e
    simp [List.getD, hv]
  · have : (List.replicate n false |>.set s true).getD v false = false := by simp [List.getD, e, hv]
    rw [this]
    constructor
    · intro h; cases h
    · rintro (h | h)
      · exact absurd h.symm e
      · exact absurd h hno
theorem Marks.skip {n : Nat} {E : List (Nat × Nat)} {ws d : List Int} {s k : Nat} {bs : List Bool} (h : Marks n E ws d s k bs) (hno : ¬ (0 ≤ ws.getD k 0 ∧ d.getD (E.getD k (0, 0)).1 0 < INF)) : Marks n E ws d s (k + 1) bs := by
  refine ⟨h.1, fun v hv => (h.2 v hv).trans (or_congr Iff.rfl ⟨fun ⟨i, hi, r⟩ => ⟨i, by omega, r⟩, fun ⟨i, hi, r⟩ => ⟨i, ?_, r⟩⟩)⟩
  by_cases e : i = k
  · subst e; exact absurd ⟨r.1, r.2.1⟩ hno
  · omega
theorem Marks.set {n : Nat} {E : List (Nat × Nat)} {ws d : List Int} {s k x y : Nat} {bs : List Bool} {b : Bool} (h : Marks n E ws d s k bs) (he : E.getD k (0, 0) = (x, y)) (hy : y < n) (h0 : 0 ≤ ws.getD k 0) (hf : d.getD x 0 < INF) (hb : b = true ↔ bs.getD y false = true ∨ d.getD y 0 = d.getD x 0 + ws.getD k 0) : Marks n E ws d s (k + 1) (bs.set y b) := by
  refine ⟨by rw [List.length_set]; exact h.1, fun v hv => ?_⟩
  have old : Att E ws d k v → Att E ws d (k + 1) v := fun ⟨i, hi, r⟩ => ⟨i, by omega, r⟩
  by_cases e : y = v
  · subst e
    have : (bs.set y b).getD y false = b := by have := h.1; simp [List.getD, hy, this]
    rw [this, hb, h.2 y hv]
    constructor
    · rintro ((h1 | h1) | h1)
      · exact .inl h1
      · exact .inr (old h1)
      · exact .inr ⟨k, by omega, h0, by rw [he]; exact hf, by rw [he], by rw [he]; exact h1⟩
    · rintro (h1 | ⟨i, hi, r⟩)
      · exact .inl (.inl h1)
      · by_cases ei : i = k
        · subst ei
          rw [he] at r
          exact .inr r.2.2.2
        · exact .inl (.inr ⟨i, by omega, r⟩)
  · have : (bs.set y b).getD v false = bs.getD v false := by simp [List.getD, e]
    rw [this, h.2 v hv]
    refine or_congr Iff.rfl ⟨old, fun ⟨i, hi, r⟩ => ⟨i, ?_, r⟩⟩
    by_cases ei : i = k
    · subst ei
      rw [he] at r
      exact absurd r.2.2.1 e
    · omega
theorem bools_set (bs : List Bool) (i : Nat) (b : Bool) : (bs.map Value.bool).toArray.setIfInBounds i (.bool b) = ((bs.set i b).map Value.bool).toArray := by
  rw [List.setIfInBounds_toArray, List.map_set]
theorem info_bool : (Try.prog.info? 4).map (fun i => (i.zero, i.size, i.bytes)) = some (some (.bool false), 1, 1) := by kernel_rfl
theorem run_make_bools (n : Nat) (hn : n ≤ 1099511627776) (W : World) : (Instr.makeSlice 46 (.int .i64 (n : Int)) (.int .i64 (n : Int))).run Try.prog W = .ok (.slice (some ⟨W.heap.size, 0, none⟩) n n) (W.alloc (.cells ((List.replicate n false).map Value.bool).toArray 4)) := by
  obtain ⟨i0, hi, hz0, hz1, hz2⟩ := info_parts info_bool
  have := run_make (P := Try.prog) W 46 4 i0 _ Try.underlying46 hi hz0 .i64 .i64 (n : Int) (n : Int) (by omega) (by omega) (by rw [hz2]; omega) (by omega)
  have e : (((n : Int).toNat) * i0.size) = n := by rw [hz1]; omega
  rw [this, e, show (Value.bool false).cells = #[.bool false] from rfl, made_one]
  simp

/-! ### the walk -/
def TrR (W : World) (n : Nat) (E : List (Nat × Nat)) (ws d : List Int) (s gb : Nat) (i : Value) (wr : World) : Prop :=
  ∃ (k : Nat) (bs : List Bool), k ≤ E.length ∧ i = .int .i64 k ∧ Marks n E ws d s k bs ∧ wr.heap[gb]? = some (.cells (bs.map Value.bool).toArray 4 (0, 0)) ∧ Below W.heap.size W wr
section
variable {n : Nat} {E : List (Nat × Nat)} {ws : List Int} {A B C : Option Addr} {c d f : Nat} {w : World}
set_option maxRecDepth 100000 in
set_option maxHeartbeats 4000000 in
theorem tr_notsmall (n : Int) (xs : List (Int × Int)) (l : List Int) (s : Int) (hr : ArcsI w A xs) (hw : Ints w C ws) (hS : ¬ SmallP n xs ws) (h1 : xs.length ≤ 9223372036854775807) (h2 : ws.length ≤ 9223372036854775807) :
    Calls Try.prog 5 #[.agg #[.int .i64 n, .slice A xs.length c], .slice B l.length d, .slice C ws.length f, .int .i64 s] w (RetTrue w) := by
  have HC := hid (small_no (c := c) (f := f) (hr.below (below_alloc' (Below.refl _ _) (.cells #[.int .i64 n, .slice A xs.length c] 24))) (hw.below (below_alloc' (Below.refl _ _) (.cells #[.int .i64 n, .slice A xs.length c] 24))) hS h1 h2)
  clear hr hw hS h1 h2
  go_enter Try.func5, Try.ntmps5
  go_wp2_with fail
  refine HC.out.mono ?_
  rintro en w1 ⟨rfl, hb1⟩
  have HB1 := hid (below_then' (below_alloc' (Below.refl w.heap.size w) _) hb1)
  clear hb1
  go_wp2_with fail
  refine (lives_any w1).mono ?_
  rintro en w2 ⟨rfl, hb2⟩
  have HB2 := hid (HB1.out.trans (hb2.mono HB1.out.size))
  clear hb2
  go_wp2
  go_ret
  exact ⟨rfl, HB2.out⟩
set_option maxRecDepth 100000 in
set_option maxHeartbeats 4000000 in
theorem tr_long (l : List Int) (s : Int) (hl : 10 < l.length) (hr : Arcs w A E) (hw : Ints w C ws) (hG : GraphOk n E ws) (hk : n ≤ 10) (hE : E.length ≤ 24) (hlm : l.length ≤ 9223372036854775807) :
    Calls Try.prog 5 #[.agg #[.int .i64 (n : Int), .slice A E.length c], .slice B l.length d, .slice C ws.length f, .int .i64 s] w (RetTrue w) := by
  have HC := hid (small_yes (c := c) (f := f) (hr.below (below_alloc' (Below.refl _ _) (.cells #[.int .i64 (n : Int), .slice A E.length c] 24))) (hw.below (below_alloc' (Below.refl _ _) (.cells #[.int .i64 (n : Int), .slice A E.length c] 24))) hG hk hE)
  have q1 : decide ((10 : Int) < (l.length : Int)) = true := decide_eq_true (by omega)
  have q2 : decide (10 < l.length) = true := decide_eq_true (by omega)
  clear hr hw hG
  go_enter Try.func5, Try.ntmps5
  go_wp2_with fail
  refine HC.out.mono ?_
  rintro en w1 ⟨rfl, hb1⟩
  have HB1 := hid (below_then' (below_alloc' (Below.refl w.heap.size w) _) hb1)
  have Kb1 := hid (blk_below (new_blk w _ _) hb1)
  have g0 : w1.cell? ⟨w.heap.size, 0, none⟩ = some (.int .i64 (n : Int)) := blk_cell' Kb1.out 0
  have gl := blk_lt' Kb1.out
  clear hb1
  go_wp2_with fail
  refine (lives_any w1).mono ?_
  rintro en w2 ⟨rfl, hb2⟩
  have HB2 := hid (HB1.out.trans (hb2.mono HB1.out.size))
  clear hb2 g0 gl
  go_wp2
  go_ret
  exact ⟨rfl, HB2.out⟩
set_option maxRecDepth 100000 in
set_option maxHeartbeats 4000000 in
theorem tr_neg (l : List Int) (s : Int) (hl : l.length ≤ 10) (hs : s < 0) (hr : Arcs w A E) (hw : Ints w C ws) (hG : GraphOk n E ws) (hk : n ≤ 10) (hE : E.length ≤ 24) (hlm : l.length ≤ 9223372036854775807) :
    Calls Try.prog 5 #[.agg #[.int .i64 (n : Int), .slice A E.length c], .slice B l.length d, .slice C ws.length f, .int .i64 s] w (RetTrue w) := by
  have HC := hid (small_yes (c := c) (f := f) (hr.below (below_alloc' (Below.refl _ _) (.cells #[.int .i64 (n : Int), .slice A E.length c] 24))) (hw.below (below_alloc' (Below.refl _ _) (.cells #[.int .i64 (n : Int), .slice A E.length c] 24))) hG hk hE)
  have q1 : decide ((10 : Int) < (l.length : Int)) = false := decide_eq_false (by omega)
  have q2 : decide (10 < l.length) = false := decide_eq_false (by omega)
  clear hr hw hG
  go_enter Try.func5, Try.ntmps5
  go_wp2_with fail
  refine HC.out.mono ?_
  rintro en w1 ⟨rfl, hb1⟩
  have HB1 := hid (below_then' (below_alloc' (Below.refl w.heap.size w) _) hb1)
  have Kb1 := hid (blk_below (new_blk w _ _) hb1)
  have g0 : w1.cell? ⟨w.heap.size, 0, none⟩ = some (.int .i64 (n : Int)) := blk_cell' Kb1.out 0
  have gl := blk_lt' Kb1.out
  clear hb1
  go_wp2_with fail
  refine (lives_any w1).mono ?_
  rintro en w2 ⟨rfl, hb2⟩
  have HB2 := hid (HB1.out.trans (hb2.mono HB1.out.size))
  clear hb2 g0 gl
  go_wp2
  go_ret
  exact ⟨rfl, HB2.out⟩
set_option maxRecDepth 100000 in
set_option maxHeartbeats 4000000 in
theorem tr_big (l : List Int) (s : Int) (hl : l.length ≤ 10) (hs0 : 0 ≤ s) (hs : (n : Int) ≤ s) (hr : Arcs w A E) (hw : Ints w C ws) (hG : GraphOk n E ws) (hk : n ≤ 10) (hE : E.length ≤ 24) (hlm : l.length ≤ 9223372036854775807) :
    Calls Try.prog 5 #[.agg #[.int .i64 (n : Int), .slice A E.length c], .slice B l.length d, .slice C ws.length f, .int .i64 s] w (RetTrue w) := by
  have HC := hid (small_yes (c := c) (f := f) (hr.below (below_alloc' (Below.refl _ _) (.cells #[.int .i64 (n : Int), .slice A E.length c] 24))) (hw.below (below_alloc' (Below.refl _ _) (.cells #[.int .i64 (n : Int), .slice A E.length c] 24))) hG hk hE)
  have q1 : decide ((10 : Int) < (l.length : Int)) = false := decide_eq_false (by omega)
  have q2 : decide (10 < l.length) = false := decide_eq_false (by omega)
  clear hr hw hG
  go_enter Try.func5, Try.ntmps5
  go_wp2_with fail
  refine HC.out.mono ?_
  rintro en w1 ⟨rfl, hb1⟩
  have HB1 := hid (below_then' (below_alloc' (Below.refl w.heap.size w) _) hb1)
  have Kb1 := hid (blk_below (new_blk w _ _) hb1)
  have g0 : w1.cell? ⟨w.heap.size, 0, none⟩ = some (.int .i64 (n : Int)) := blk_cell' Kb1.out 0
  have gl := blk_lt' Kb1.out
  clear hb1
  go_wp2_with fail
  refine (lives_any w1).mono ?_
  rintro en w2 ⟨rfl, hb2⟩
  have HB2 := hid (HB1.out.trans (hb2.mono HB1.out.size))
  clear hb2 g0 gl
  go_wp2
  go_ret
  exact ⟨rfl, HB2.out⟩
theorem check_yes (hr : Arcs w A E) (hw : Ints w C ws) (hG : GraphOk n E ws) :
    Calls Try.prog 23 #[.agg #[.int .i64 (n : Int), .slice A E.length c], .slice C ws.length f] w (RetOk w) := by
  have hn := hG.n_le
  have := ref38check n A (toI E) c C ws f w (arcs_toI.1 hr) hw (by omega) (by omega) (by rw [toI_length]; exact hG.e_le) (by rw [hG.w_len]; have := hG.e_le; omega)
  rw [toI_length] at this
  refine this.mono ?_
  rintro en w' ⟨r, rfl, hr0, hb⟩
  obtain rfl : r = 0 := hr0.2 ⟨hG.arcs, hG.w_len, hG.w_ok⟩
  exact ⟨rfl, hb⟩
set_option maxRecDepth 100000 in
set_option maxHeartbeats 4000000 in
theorem tr_noperm (l : List Int) (s : Nat) (hs : s < n) (hr : Arcs w A E) (hli : Ints w B l) (hw : Ints w C ws) (hG : GraphOk n E ws) (hk : n ≤ 10) (hE : E.length ≤ 24) (hl : l.length ≤ 10) (hbad : ¬ PermI n l) :
    Calls Try.prog 5 #[.agg #[.int .i64 (n : Int), .slice A E.length c], .slice B l.length d, .slice C ws.length f, .int .i64 (s : Int)] w (RetTrue w) := by
  have HC := hid (small_yes (c := c) (f := f) (hr.below (below_alloc' (Below.refl _ _) (.cells #[.int .i64 (n : Int), .slice A E.length c] 24))) (hw.below (below_alloc' (Below.refl _ _) (.cells #[.int .i64 (n : Int), .slice A E.length c] 24))) hG hk hE)
  have q1 : decide ((10 : Int) < (l.length : Int)) = false := decide_eq_false (by omega)
  have q2 : decide (10 < l.length) = false := decide_eq_false (by omega)
  have Hr := hid hr
  have Hw := hid hw
  have Hli := hid hli
  have HG := hid hG
  have Hbad := hid hbad
  clear hr hw hG hli hbad
  go_enter Try.func5, Try.ntmps5
  go_wp2_with fail
  refine HC.out.mono ?_
  rintro en w1 ⟨rfl, hb1⟩
  have Kb1 := hid (blk_below (new_blk w _ _) hb1)
  have HB1 := hid (below_then' (below_alloc' (Below.refl w.heap.size w) _) hb1)
  have g0 : w1.cell? ⟨w.heap.size, 0, none⟩ = some (.int .i64 (n : Int)) := blk_cell' Kb1.out 0
  have g1 : w1.cell? ⟨w.heap.size, 1, none⟩ = some (.slice A E.length c) := blk_cell' Kb1.out 1
  have gl := blk_lt' Kb1.out
  clear hb1
  go_wp2_with fail
  refine (check_yes (Hr.out.below HB1.out) (Hw.out.below HB1.out) HG.out).mono ?_
  rintro en w2 ⟨rfl, hb2⟩
  have Kb2 := hid (blk_below Kb1.out hb2)
  have HB2 := hid (HB1.out.trans (hb2.mono HB1.out.size))
  have g0 : w2.cell? ⟨w.heap.size, 0, none⟩ = some (.int .i64 (n : Int)) := blk_cell' Kb2.out 0
  have g1 : w2.cell? ⟨w.heap.size, 1, none⟩ = some (.slice A E.length c) := blk_cell' Kb2.out 1
  have gl := blk_lt' Kb2.out
  clear hb2
  go_wp2_with fail
  refine (setup_bad n E ws A c B l d C f w2 (Hr.out.below HB2.out) (Hli.out.below HB2.out) HG.out (by omega) Hbad.out).mono ?_
  rintro en w3 ⟨rfl, hb3⟩
  have HB3 := hid (HB2.out.trans (hb3.mono HB2.out.size))
  clear hb3
  go_wp2_with fail
  refine (lives_any _).mono ?_
  rintro en wl ⟨rfl, hbl⟩
  have HB4 := hid (HB3.out.trans (hbl.mono HB3.out.size))
  clear hbl
  go_wp2
  go_ret
  exact ⟨rfl, HB4.out⟩
set_option maxRecDepth 100000 in
set_option maxHeartbeats 800000 in
theorem tr_good (order : List Nat) (s : Nat) (hs : s < n) (hr : Arcs w A E) (hli : Nats w B order) (hw : Ints w C ws) (hG : GraphOk n E ws) (hk : n ≤ 10) (hE : E.length ≤ 24) (hol : order.length = n) (hlt : ∀ x ∈ order, x < n) (hnd : order.Nodup) :
    Calls Try.prog 5 #[.agg #[.int .i64 (n : Int), .slice A E.length c], .slice B n d, .slice C ws.length f, .int .i64 (s : Int)] w (RetTrue w) := by
  have HC := hid (small_yes (c := c) (f := f) (hr.below (below_alloc' (Below.refl _ _) (.cells #[.int .i64 (n : Int), .slice A E.length c] 24))) (hw.below (below_alloc' (Below.refl _ _) (.cells #[.int .i64 (n : Int), .slice A E.length c] 24))) hG hk hE)
  have q1 : decide ((10 : Int) < (n : Int)) = false := decide_eq_false (by omega)
  have q2 : decide (10 < n) = false := decide_eq_false (by omega)
  have q3 : decide ((s : Int) < 0) = false := decide_eq_false (by omega)
  have q4 : decide (n ≤ s) = false := decide_eq_false (by omega)
  have Hr := hid hr
  have Hw := hid hw
  have Hli := hid hli
  have HG := hid hG
  have Hol := hid hol
  have Hlt := hid hlt
  have Hnd := hid hnd
  have hwl : ws.length ≤ 24 := by rw [hG.w_len]; exact hE
  have HEN := hid hG.ends
  have hmk := run_make_bools n (by omega)
  clear hr hw hG hli hol hlt hnd
  go_enter Try.func5, Try.ntmps5
  go_wp2_with fail
  refine HC.out.mono ?_
  rintro en w1 ⟨rfl, hb1⟩
  have Kb1 := hid (blk_below (new_blk w _ _) hb1)
  have HB1 := hid (below_then' (below_alloc' (Below.refl w.heap.size w) _) hb1)
  have g0 : w1.cell? ⟨w.heap.size, 0, none⟩ = some (.int .i64 (n : Int)) := blk_cell' Kb1.out 0
  have g1 : w1.cell? ⟨w.heap.size, 1, none⟩ = some (.slice A E.length c) := blk_cell' Kb1.out 1
  have gl := blk_lt' Kb1.out
  clear hb1
  go_wp2_with fail
  refine (check_yes (Hr.out.below HB1.out) (Hw.out.below HB1.out) HG.out).mono ?_
  rintro en w2 ⟨rfl, hb2⟩
  have Kb2 := hid (blk_below Kb1.out hb2)
  have HB2 := hid (HB1.out.trans (hb2.mono HB1.out.size))
  have g0 : w2.cell? ⟨w.heap.size, 0, none⟩ = some (.int .i64 (n : Int)) := blk_cell' Kb2.out 0
  have g1 : w2.cell? ⟨w.heap.size, 1, none⟩ = some (.slice A E.length c) := blk_cell' Kb2.out 1
  have gl := blk_lt' Kb2.out
  clear hb2
  go_wp2_with fail
  refine (setup_good n E ws A c B order d C f w2 (Hr.out.below HB2.out) (Hli.out.below HB2.out) (Hw.out.below HB2.out) HG.out Hol.out Hlt.out Hnd.out).mono ?_
  rintro en w3 ⟨m, rfl, hM, hm, hb3⟩
  obtain ⟨h, M, order', ranks, edges, hMt, hGd⟩ := hM
  have HM := hid hMt
  have HGd := hid hGd
  have Kb3 := hid (blk_below Kb2.out hb3)
  have HB3 := hid (HB2.out.trans (hb3.mono HB2.out.size))
  clear hb3 hMt hGd hm g0 g1 gl
  go_wp2_with fail
  refine (sfrom_good HM.out HGd.out s hs (by omega)).mono ?_
  rintro en w4 ⟨ds, A4, c4, rfl, hd4, hc4, hf4, hI4, hb4⟩
  have hdl : ds.length = n := hd4.1
  rw [hdl] at hc4 ⊢
  have HD := hid hd4
  have HI4 := hid hI4
  have Hdl := hid hdl
  have Kb4 := hid (blk_below Kb3.out hb4)
  have HB4 := hid (HB3.out.trans (hb4.mono HB3.out.size))
  have g0 : w4.cell? ⟨w.heap.size, 0, none⟩ = some (.int .i64 (n : Int)) := blk_cell' Kb4.out 0
  have gl := blk_lt' Kb4.out
  obtain ⟨b4, o4, rfl, hb4l, cs⟩ := HI4.out.at_ (k := s) (by rw [hdl]; exact hs)
  rw [dist_zero hd4 hs] at cs
  clear hd4 hI4 hdl hf4 hb4
  have Hs0 : Hid (∀ W : World, Below w4.heap.size w4 W → W.cell? ⟨w.heap.size, 0, none⟩ = some (.int .i64 (n : Int)) ∧ W.cell? ⟨w.heap.size, 1, none⟩ = some (.slice A E.length c)) := fun W hW => ⟨blk_cell' (blk_below Kb4.out hW) 0, blk_cell' (blk_below Kb4.out hW) 1⟩
  go_wp2
  go_loopw [14] (fun i wr => TrR w4 n E ws ds s w4.heap.size i wr) (fun i _ => E.length - (intOf i).toNat)
  case atStart =>
    refine ⟨0, (List.replicate n false).set s true, Nat.zero_le _, rfl, Marks.start E ws ds hs, ?_, ?_⟩
    · have e : (Array.replicate n (Value.bool false)).setIfInBounds s (.bool true) = (((List.replicate n false).set s true).map Value.bool).toArray := by rw [← bools_set]; simp
      rw [← e]
      exact new_blk w4 _ _
    · exact below_alloc' (Below.refl _ _) _
  case round =>
    obtain ⟨k, bs, hkE, rfl, hM, hbk, hnx⟩ := hrel
    have Hnx := hid hnx
    have HMk := hid hM
    have Hbk := hid hbk
    have hbl : bs.length = n := hM.1
    obtain ⟨g0, g1⟩ := Hs0.out wr hnx
    have gl2 : w.heap.size < wr.heap.size := Nat.lt_of_lt_of_le gl hnx.size
    have lgb := blk_lt' hbk
    have lb4 : b4 < wr.heap.size := Nat.lt_of_lt_of_le hb4l hnx.size
    by_cases hlt : k < E.length
    · have hkw : k < ws.length := by rw [HG.out.w_len]; exact hlt
      obtain ⟨bA, oA, rfl, hbA, ca1, ca2⟩ := Hr.out.at_ hlt
      obtain ⟨bC, oC, rfl, hbC, cw⟩ := Hw.out.at_ hkw
      obtain ⟨x, y, hxy⟩ : ∃ x y, E.getD k (0, 0) = (x, y) := ⟨_, _, rfl⟩
      obtain ⟨wk, hwk⟩ : ∃ z, ws.getD k 0 = z := ⟨_, rfl⟩
      obtain ⟨dx, hdx⟩ : ∃ z, ds.getD x 0 = z := ⟨_, rfl⟩
      obtain ⟨dy, hdy⟩ : ∃ z, ds.getD y 0 = z := ⟨_, rfl⟩
      obtain ⟨by', hby⟩ : ∃ z, bs.getD y false = z := ⟨_, rfl⟩
      have hxy2 := HEN.out k hlt
      rw [hxy] at ca1 ca2 hxy2
      rw [hwk] at cw
      dsimp only at ca1 ca2 hxy2
      obtain ⟨hxn, hyn⟩ := hxy2
      have hBw : Below w.heap.size w wr := HB4.out.trans (hnx.mono HB4.out.size)
      replace ca1 := cell_later hBw ca1
      replace ca2 := cell_later hBw ca2
      replace cw := cell_later hBw cw
      have lbA : bA < wr.heap.size := Nat.lt_of_lt_of_le hbA hBw.size
      have lbC : bC < wr.heap.size := Nat.lt_of_lt_of_le hbC hBw.size
      have cdx : wr.cell? ⟨b4, o4 + x, none⟩ = some (.int .i64 dx) := by
        obtain ⟨b', o', e, _, cx⟩ := HI4.out.at_ (k := x) (by rw [Hdl.out]; exact hxn)
        cases e
        rw [hdx] at cx
        exact cell_later Hnx.out cx
      have cdy : wr.cell? ⟨b4, o4 + y, none⟩ = some (.int .i64 dy) := by
        obtain ⟨b', o', e, _, cx⟩ := HI4.out.at_ (k := y) (by rw [Hdl.out]; exact hyn)
        cases e
        rw [hdy] at cx
        exact cell_later Hnx.out cx
      have cby : wr.cell? ⟨w4.heap.size, y, none⟩ = some (.bool by') := by
        rw [blk_cell' hbk, ← hby]
        simp [List.getD, hbl, hyn]
      have fby := blk_free hbk y
      have ndx := dist_nonneg HD.out hxn
      have ndy := dist_nonneg HD.out hyn
      rw [hdx] at ndx
      rw [hdy] at ndy
      have hwb : wk ≤ 1073741824 := by have := HG.out.w_ok k hkw; rw [hwk] at this; exact this.2
      have Hxy := hid hxy
      have Hwk := hid hwk
      have Hdx := hid hdx
      have Hdy := hid hdy
      have Hby := hid hby
      have Hbl := hid hbl
      clear hxy hwk hdx hdy hby hnx hM hbk hBw hbl
      by_cases hw0 : wk < 0
      · have t1 : decide (wk < 0) = true := decide_eq_true hw0
        go_wp2
        go_roundw
        case rel =>
          have hR : TrR w4 n E ws ds s w4.heap.size (.int .i64 ((k + 1 : Nat) : Int)) (wr.alloc (.cells #[.int .i64 (x : Int), .int .i64 (y : Int)] 48)) :=
            ⟨k + 1, bs, hlt, rfl, HMk.out.skip (fun h => by rw [Hwk.out] at h; omega), blk_below Hbk.out (below_alloc' (Below.refl _ _) _), below_alloc' Hnx.out _⟩
          first | exact hR | ((repeat apply Exists.intro); exact ⟨hR, rfl⟩)
        case measure => simp [intOf]; omega
      · have t1 : decide (wk < 0) = false := decide_eq_false hw0
        by_cases hfx : 1152921504606846976 ≤ dx
        · have t2 : decide (1152921504606846976 ≤ dx) = true := decide_eq_true hfx
          go_wp2
          go_roundw
          case rel =>
            have hR : TrR w4 n E ws ds s w4.heap.size (.int .i64 ((k + 1 : Nat) : Int)) (wr.alloc (.cells #[.int .i64 (x : Int), .int .i64 (y : Int)] 48)) :=
              ⟨k + 1, bs, hlt, rfl, HMk.out.skip (fun h => by rw [Hxy.out] at h; simp only [Hdx.out] at h; unfold INF at h; omega), blk_below Hbk.out (below_alloc' (Below.refl _ _) _), below_alloc' Hnx.out _⟩
            first | exact hR | ((repeat apply Exists.intro); exact ⟨hR, rfl⟩)
          case measure => simp [intOf]; omega
        · have t2 : decide (1152921504606846976 ≤ dx) = false := decide_eq_false hfx
          have hle : dy ≤ dx + wk := by
            have := dist_le HD.out HEN.out hlt Hxy.out (by rw [Hwk.out]; omega) (by rw [Hdx.out]; unfold INF; omega)
            rw [Hdx.out, Hdy.out, Hwk.out] at this
            exact this
          have hwr : IntKind.i64.wrap (dx + wk) = dx + wk := IntWalk.i64_in _ (by omega)
          have t3 : decide (dx + wk < dy) = false := decide_eq_false (by omega)
          go_wp2
          go_quiet (fail)
          have HBq := hid (below_drewN' (below_alloc' (Below.refl wr.heap.size wr) (.cells #[.int .i64 (x : Int), .int .i64 (y : Int)] 48)) nq)
          obtain ⟨wq, hwq⟩ : ∃ W, (wr.alloc (.cells #[.int .i64 (x : Int), .int .i64 (y : Int)] 48)).drewN nq = W := ⟨_, rfl⟩
          have kx : wq.cell? ⟨wr.heap.size, 0, none⟩ = some (.int .i64 (x : Int)) := by rw [← hwq]; exact blk_cell' (new_blk wr _ _) 0
          have ky : wq.cell? ⟨wr.heap.size, 1, none⟩ = some (.int .i64 (y : Int)) := by rw [← hwq]; exact blk_cell' (new_blk wr _ _) 1
          have lwq : wr.heap.size < wq.heap.size := by rw [← hwq]; simp
          rw [hwq] at HBq
          have Hwq := hid hwq
          try rw [hwq]
          have cdx' : wq.cell? ⟨b4, o4 + x, none⟩ = some (.int .i64 dx) := cell_later HBq.out cdx
          have cdy' : wq.cell? ⟨b4, o4 + y, none⟩ = some (.int .i64 dy) := cell_later HBq.out cdy
          have cby' : wq.cell? ⟨w4.heap.size, y, none⟩ = some (.bool by') := cell_later HBq.out cby
          have cw' : wq.cell? ⟨bC, oC + k, none⟩ = some (.int .i64 wk) := cell_later HBq.out cw
          have Hbq := hid (blk_below Hbk.out HBq.out)
          have fby' : wq.frozen? ⟨w4.heap.size, y, none⟩ = false := blk_free Hbq.out y
          have lgq : w4.heap.size < wq.heap.size := blk_lt' Hbq.out
          go_wp2
          cases by' with
          | true =>
            refine wp_region_mix (fun w' => w'.cell? ⟨wr.heap.size, 1, none⟩ = some (.int .i64 (y : Int)) ∧ w'.cell? ⟨w4.heap.size, y, none⟩ = some (.bool true)) 27 [(0, true), (1, true), (2, true), (3, true), (4, true), (5, true), (6, true), (7, true), (8, true), (9, true), (10, true), (11, true), (12, true), (13, true), (14, true), (15, true), (16, true), (17, true), (18, true), (19, true), (20, true), (21, true), (22, true), (23, true), (24, true), (25, true), (26, true)] (by kernel_rfl) (by kernel_rfl) ⟨ky, cby'⟩ ?_
            iterate 9
              refine mix_take (v := ?_) rfl (by kernel_rfl) ?_ ?_
              rotate_left
              · (intro W hSW; (try dsimp only at hSW); go_split_ands; go_simp; try with_reducible rfl)
              simp only [Act.put, List.setIfInBounds_toArray, List.set_cons_zero, List.set_cons_succ]
            iterate 16
              refine mix_off rfl (by kernel_rfl) ?_
              simp only [Act.put, List.setIfInBounds_toArray, List.set_cons_zero, List.set_cons_succ]
            iterate 2
              refine mix_take (v := ?_) rfl (by kernel_rfl) ?_ ?_
              rotate_left
              · (intro W hSW; (try dsimp only at hSW); go_split_ands; go_simp; try with_reducible rfl)
              simp only [Act.put, List.setIfInBounds_toArray, List.set_cons_zero, List.set_cons_succ]
            refine mix_last rfl (fun K hK => ?_)
            go_simp
            refine hK.out _ _ (NoPanic.normal ?_)
            clear hK K
            go_wp2
            go_roundw
            case rel =>
              have hR : TrR w4 n E ws ds s w4.heap.size (.int .i64 ((k + 1 : Nat) : Int)) ((wq.setCell ⟨w4.heap.size, y, none⟩ (.bool true)).drew) := by
                refine ⟨k + 1, bs.set y true, hlt, rfl, HMk.out.set Hxy.out hyn (by rw [Hwk.out]; omega) (by rw [Hdx.out]; unfold INF; omega) ?_, ?_, ((Hnx.out.trans (HBq.out.mono Hnx.out.size)).setCell (Nat.le_refl _) _).drew⟩
                · rw [Hby.out, Hdy.out, Hdx.out, Hwk.out]
                  simp
                · have := blk_set' Hbq.out y (.bool true)
                  rw [bools_set] at this
                  exact this
              first | exact hR | ((repeat apply Exists.intro); exact ⟨hR, rfl⟩)
            case measure => simp [intOf]; omega
          | false =>
            refine wp_region_mix (fun w' => w'.cell? ⟨wr.heap.size, 0, none⟩ = some (.int .i64 (x : Int)) ∧ w'.cell? ⟨wr.heap.size, 1, none⟩ = some (.int .i64 (y : Int)) ∧ w'.cell? ⟨w4.heap.size, y, none⟩ = some (.bool false) ∧ w'.cell? ⟨b4, o4 + x, none⟩ = some (.int .i64 dx) ∧ w'.cell? ⟨b4, o4 + y, none⟩ = some (.int .i64 dy) ∧ w'.cell? ⟨bC, oC + k, none⟩ = some (.int .i64 wk)) 27 [(0, true), (1, true), (2, true), (3, true), (4, true), (5, true), (6, true), (7, true), (8, true), (9, true), (10, true), (11, true), (12, true), (13, true), (14, true), (15, true), (16, true), (17, true), (18, true), (19, true), (20, true), (21, true), (22, true), (23, true), (24, true), (25, true), (26, true)] (by kernel_rfl) (by kernel_rfl) ⟨kx, ky, cby', cdx', cdy', cw'⟩ ?_
            iterate 27
              refine mix_take (v := ?_) rfl (by kernel_rfl) ?_ ?_
              rotate_left
              · (intro W hSW; (try dsimp only at hSW); go_split_ands; go_simp; try with_reducible rfl)
              simp only [Act.put, List.setIfInBounds_toArray, List.set_cons_zero, List.set_cons_succ]
            refine mix_last rfl (fun K hK => ?_)
            go_simp
            refine hK.out _ _ (NoPanic.normal ?_)
            clear hK K
            go_wp2
            go_roundw
            case rel =>
              have hR : TrR w4 n E ws ds s w4.heap.size (.int .i64 ((k + 1 : Nat) : Int)) ((wq.setCell ⟨w4.heap.size, y, none⟩ (.bool (dy == dx + wk))).drew) := by
                refine ⟨k + 1, bs.set y (dy == dx + wk), hlt, rfl, HMk.out.set Hxy.out hyn (by rw [Hwk.out]; omega) (by rw [Hdx.out]; unfold INF; omega) ?_, ?_, ((Hnx.out.trans (HBq.out.mono Hnx.out.size)).setCell (Nat.le_refl _) _).drew⟩
                · rw [Hby.out, Hdy.out, Hdx.out, Hwk.out]
                  simp
                · have := blk_set' Hbq.out y (.bool (dy == dx + wk))
                  rw [bools_set] at this
                  exact this
              first | exact hR | ((repeat apply Exists.intro); exact ⟨hR, rfl⟩)
            case measure => simp [intOf]; omega
    · obtain rfl : k = E.length := by omega
      have HBr := hid (HB4.out.trans (hnx.mono HB4.out.size))
      have hI4r := HI4.out.below hnx
      have HI4r := hid hI4r
      clear hM hbk hnx hI4r
      go_wp2
      go_loop [16] (fun i => ∃ k : Nat, k ≤ n ∧ i = .int .i64 k) (fun i => n - (intOf i).toNat)
      case atStart => exact ⟨0, Nat.zero_le _, rfl⟩
      case round =>
        obtain ⟨v, hv, rfl⟩ := hrel
        by_cases hvn : v < n
        · obtain ⟨dv, hdv⟩ : ∃ z, ds.getD v 0 = z := ⟨_, rfl⟩
          obtain ⟨bv, hbv⟩ : ∃ z, bs.getD v false = z := ⟨_, rfl⟩
          have cdv : wr.cell? ⟨b4, o4 + v, none⟩ = some (.int .i64 dv) := by
            obtain ⟨b', o', e, _, cx⟩ := HI4r.out.at_ (k := v) (by rw [Hdl.out]; exact hvn)
            cases e
            rw [hdv] at cx
            exact cx
          have cbv : wr.cell? ⟨w4.heap.size, v, none⟩ = some (.bool bv) := by
            rw [blk_cell' Hbk.out, ← hbv]
            simp [List.getD, hbl, hvn]
          have ndv := dist_nonneg HD.out hvn
          rw [hdv] at ndv
          have t1 : decide (dv < 0) = false := decide_eq_false (by omega)
          cases bv with
          | true =>
            clear hdv hbv
            go_wp2
            go_round
            case rel => exact ⟨v + 1, by omega, by go_num⟩
            case measure => simp [intOf]; omega
          | false =>
            have hdi : dv = 1152921504606846976 := by
              apply Classical.byContradiction
              intro hne
              have hno : ¬ (v = s ∨ Att E ws ds E.length v) := fun h => by have := (HMk.out.2 v hvn).2 h; rw [hbv] at this; cases this
              by_cases e : v = s
              · exact hno (.inl e)
              · exact hno (.inr (dist_att HD.out HEN.out hs hvn e (by rw [hdv]; unfold INF; omega)))
            subst hdi
            clear hdv hbv
            go_wp2
            go_round
            case rel => exact ⟨v + 1, by omega, by go_num⟩
            case measure => simp [intOf]; omega
        · go_wp2_with fail
          refine (lives_any _).mono ?_
          rintro en wl ⟨rfl, hbl2⟩
          have HBl := hid (HBr.out.trans (hbl2.mono HBr.out.size))
          clear hbl2
          go_wp2
          go_ret
          exact ⟨rfl, HBl.out⟩
theorem tr_any (n : Int) (xs : List (Int × Int)) (l ws : List Int) (s : Int) (hr : ArcsI w A xs) (hli : Ints w B l) (hw : Ints w C ws) (h1 : xs.length ≤ 9223372036854775807) (h2 : l.length ≤ 9223372036854775807) (h3 : ws.length ≤ 9223372036854775807) (_ : -9223372036854775808 ≤ n ∧ n ≤ 9223372036854775807) (_ : -9223372036854775808 ≤ s ∧ s ≤ 9223372036854775807) :
    Calls Try.prog 5 #[.agg #[.int .i64 n, .slice A xs.length c], .slice B l.length d, .slice C ws.length f, .int .i64 s] w (RetTrue w) := by
  by_cases hS : SmallP n xs ws
  · obtain ⟨k, E, rfl, rfl, hG, hk, hE, hwl⟩ := hS.graph
    have hr' := arcs_toI.2 hr
    rw [toI_length]
    by_cases hl : l.length ≤ 10
    · by_cases hs0 : s < 0
      · exact tr_neg l s hl hs0 hr' hw hG hk hE h2
      · by_cases hs1 : (k : Int) ≤ s
        · exact tr_big l s hl (by omega) hs1 hr' hw hG hk hE h2
        · obtain ⟨s', rfl⟩ : ∃ s' : Nat, s = (s' : Int) := ⟨s.toNat, by omega⟩
          by_cases hp : PermI k l
          · obtain ⟨order, rfl, hol, hlt, hnd⟩ := hp.nats
            have hN := ints_nats.1 hli
            have e : (ofNats order).length = k := by simp [ofNats, hol]
            rw [e]
            exact tr_good order s' (by omega) hr' hN hw hG hk hE hol hlt hnd
          · exact tr_noperm l s' (by omega) hr' hli hw hG hk hE hl hp
    · exact tr_long l s (by omega) hr' hw hG hk hE h2
  · exact tr_notsmall n xs l s hr hw hS h1 h3
end

end Go.Proofs.Ytpfjannhggcmiaa
