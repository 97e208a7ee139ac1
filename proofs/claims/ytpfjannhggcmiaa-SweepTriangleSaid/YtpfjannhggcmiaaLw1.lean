/- The walk of the statement SweepFrom: it returns true for every input. -/
import Derived.Test.YtpfjannhggcmiaaLiv
namespace Go.Proofs.Ytpfjannhggcmiaa
open Go.RowKit Go.Maps

/-- Arcs within bounds are pairs of natural numbers. -/
theorem ArcsOk.nats {n : Nat} {xs : List (Int × Int)} (h : ArcsOk n xs) : ∃ E : List (Nat × Nat), xs = toI E ∧ EndsOk n E := by
  refine ⟨xs.map fun p => (p.1.toNat, p.2.toNat), ?_, ?_⟩
  · unfold toI
    rw [List.map_map]
    conv => lhs; rw [← List.map_id xs]
    apply List.map_congr_left
    intro p hp
    obtain ⟨i, hi, e⟩ := mem_getD2 (d := (0, 0)) hp
    have := h i hi
    rw [e] at this
    unfold ArcOk at this
    simp only [id, Function.comp]
    rw [Int.toNat_of_nonneg this.1, Int.toNat_of_nonneg this.2.2.1]
  · intro i hi
    rw [List.length_map] at hi
    have := h i hi
    unfold ArcOk at this
    have e : (xs.map fun p => (p.1.toNat, p.2.toNat)).getD i (0, 0) = ((xs.getD i (0, 0)).1.toNat, (xs.getD i (0, 0)).2.toNat) := by simp [List.getD, hi]
    rw [e]
    simp only
    omega
theorem SmallP.graph {n : Int} {xs : List (Int × Int)} {ws : List Int} (h : SmallP n xs ws) : ∃ (k : Nat) (E : List (Nat × Nat)), n = (k : Int) ∧ xs = toI E ∧ GraphOk k E ws ∧ k ≤ 10 ∧ E.length ≤ 24 ∧ ws.length ≤ 24 := by
  obtain ⟨h0, h1, h2, h3, h4, h5, h6⟩ := h
  obtain ⟨k, rfl⟩ : ∃ k : Nat, n = (k : Int) := ⟨n.toNat, by omega⟩
  obtain ⟨E, rfl, hE⟩ := h4.nats
  rw [toI_length] at h2 h5
  exact ⟨k, E, rfl, rfl, ⟨by omega, by omega, hE, h5, h6⟩, by omega, h2, h3⟩
theorem graph_small {k : Nat} {E : List (Nat × Nat)} {ws : List Int} (hG : GraphOk k E ws) (hk : k ≤ 10) (hE : E.length ≤ 24) : SmallP k (toI E) ws := by
  refine ⟨by omega, by omega, by rw [toI_length]; exact hE, by rw [hG.w_len]; exact hE, fun i hi => ?_, by rw [toI_length]; exact hG.w_len, hG.w_ok⟩
  rw [toI_length] at hi
  have := hG.ends i hi
  unfold ArcOk
  rw [toI_getD]
  simp only
  omega
def RetB (w : World) (b : Bool) (en : Ending) (w' : World) : Prop := en = .returned (.bool b) ∧ Below w.heap.size w w'
theorem small_yes {n : Nat} {E : List (Nat × Nat)} {ws : List Int} {A : Option Addr} {c : Nat} {C : Option Addr} {f : Nat} {w : World} (hr : Arcs w A E) (hw : Ints w C ws) (hG : GraphOk n E ws) (hk : n ≤ 10) (hE : E.length ≤ 24) :
    Calls Try.prog 12 #[.agg #[.int .i64 (n : Int), .slice A E.length c], .slice C ws.length f] w (RetB w true) := by
  have := small_any n A (toI E) c C ws f w (arcs_toI.1 hr) hw (by rw [toI_length]; omega) (by rw [hG.w_len]; omega)
  rw [toI_length] at this
  refine this.mono ?_
  rintro en w' ⟨r, rfl, hr, hb⟩
  obtain rfl : r = true := hr.2 (graph_small hG hk hE)
  exact ⟨rfl, hb⟩
theorem small_no {n : Int} {xs : List (Int × Int)} {ws : List Int} {A : Option Addr} {c : Nat} {C : Option Addr} {f : Nat} {w : World} (hr : ArcsI w A xs) (hw : Ints w C ws) (hS : ¬ SmallP n xs ws) (h1 : xs.length ≤ 9223372036854775807) (h2 : ws.length ≤ 9223372036854775807) :
    Calls Try.prog 12 #[.agg #[.int .i64 n, .slice A xs.length c], .slice C ws.length f] w (RetB w false) := by
  refine (small_any n A xs c C ws f w hr hw h1 h2).mono ?_
  rintro en w' ⟨r, rfl, hr, hb⟩
  cases r with
  | false => exact ⟨rfl, hb⟩
  | true => exact absurd (hr.1 rfl) hS
theorem equal_same {w : World} {A B : Option Addr} {xs : List Int} {k l : Nat} (hx : Ints w A xs) (hy : Ints w B xs) (hb : xs.length ≤ 1099511627776) : Calls Try.prog 19 #[.slice A xs.length k, .slice B xs.length l] w (RetYes w) := by
  refine (equal_any A B xs xs k l w hx hy hb).mono ?_
  rintro en w' ⟨r, rfl, hr, hw⟩
  obtain rfl : r = true := hr.2 rfl
  exact ⟨rfl, hw⟩
theorem equal_none {w : World} : Calls Try.prog 19 #[.slice none 0 0, .slice none 0 0] w (RetYes w) :=
  equal_same (xs := []) (.inl rfl) (.inl rfl) (by simp)

section
variable {n : Nat} {E : List (Nat × Nat)} {ws : List Int} {A B C : Option Addr} {c d f : Nat} {w : World}
set_option maxRecDepth 100000 in
set_option maxHeartbeats 4000000 in
theorem sf_notsmall (n : Int) (xs : List (Int × Int)) (l : List Int) (s : Int) (hr : ArcsI w A xs) (hw : Ints w C ws) (hS : ¬ SmallP n xs ws) (h1 : xs.length ≤ 9223372036854775807) (h2 : ws.length ≤ 9223372036854775807) :
    Calls Try.prog 3 #[.agg #[.int .i64 n, .slice A xs.length c], .slice B l.length d, .slice C ws.length f, .int .i64 s] w (RetTrue w) := by
  have HC := hid (small_no (c := c) (f := f) (hr.below (below_alloc' (Below.refl _ _) (.cells #[.int .i64 n, .slice A xs.length c] 24))) (hw.below (below_alloc' (Below.refl _ _) (.cells #[.int .i64 n, .slice A xs.length c] 24))) hS h1 h2)
  clear hr hw hS h1 h2
  go_enter Try.func3, Try.ntmps3
  go_wp2_with fail
  refine HC.out.mono ?_
  rintro en w1 ⟨rfl, hb1⟩
  have HB1 := hid (below_then' (below_alloc' (Below.refl w.heap.size w) _) hb1)
  clear hb1
  go_wp2_with fail
  refine (lives_any w1).mono ?_
  rintro en w2 ⟨rfl, hb2⟩
  have HB2 := hid (HB1.out.trans (hb2.mono HB1.out.size))
  clear hb2
  go_wp2
  go_ret
  exact ⟨rfl, HB2.out⟩
set_option maxRecDepth 100000 in
set_option maxHeartbeats 4000000 in
theorem sf_long (l : List Int) (s : Int) (hr : Arcs w A E) (hw : Ints w C ws) (hG : GraphOk n E ws) (hk : n ≤ 10) (hE : E.length ≤ 24) (hl : 10 < l.length) (hlm : l.length ≤ 9223372036854775807) :
    Calls Try.prog 3 #[.agg #[.int .i64 (n : Int), .slice A E.length c], .slice B l.length d, .slice C ws.length f, .int .i64 s] w (RetTrue w) := by
  have HC := hid (small_yes (c := c) (f := f) (hr.below (below_alloc' (Below.refl _ _) (.cells #[.int .i64 (n : Int), .slice A E.length c] 24))) (hw.below (below_alloc' (Below.refl _ _) (.cells #[.int .i64 (n : Int), .slice A E.length c] 24))) hG hk hE)
  have q1 : decide ((10 : Int) < (l.length : Int)) = true := decide_eq_true (by omega)
  have q2 : decide (10 < l.length) = true := decide_eq_true (by omega)
  clear hr hw hG
  go_enter Try.func3, Try.ntmps3
  go_wp2_with fail
  refine HC.out.mono ?_
  rintro en w1 ⟨rfl, hb1⟩
  have Kb1 := hid (blk_below (new_blk w _ _) hb1)
  have HB1 := hid (below_then' (below_alloc' (Below.refl w.heap.size w) _) hb1)
  have g0 : w1.cell? ⟨w.heap.size, 0, none⟩ = some (.int .i64 (n : Int)) := blk_cell' Kb1.out 0
  have g1 : w1.cell? ⟨w.heap.size, 1, none⟩ = some (.slice A E.length c) := blk_cell' Kb1.out 1
  have gl := blk_lt' Kb1.out
  clear hb1
  go_wp2_with fail
  refine (lives_any _).mono ?_
  rintro en wl ⟨rfl, hbl⟩
  have HB2 := hid (HB1.out.trans (hbl.mono HB1.out.size))
  clear hbl
  go_wp2
  go_ret
  exact ⟨rfl, HB2.out⟩
set_option maxRecDepth 100000 in
set_option maxHeartbeats 4000000 in
theorem sf_noperm (l : List Int) (s : Int) (hr : Arcs w A E) (hli : Ints w B l) (hw : Ints w C ws) (hG : GraphOk n E ws) (hk : n ≤ 10) (hE : E.length ≤ 24) (hl : l.length ≤ 10) (hbad : ¬ PermI n l) :
    Calls Try.prog 3 #[.agg #[.int .i64 (n : Int), .slice A E.length c], .slice B l.length d, .slice C ws.length f, .int .i64 s] w (RetTrue w) := by
  have HC := hid (small_yes (c := c) (f := f) (hr.below (below_alloc' (Below.refl _ _) (.cells #[.int .i64 (n : Int), .slice A E.length c] 24))) (hw.below (below_alloc' (Below.refl _ _) (.cells #[.int .i64 (n : Int), .slice A E.length c] 24))) hG hk hE)
  have q1 : decide ((10 : Int) < (l.length : Int)) = false := decide_eq_false (by omega)
  have q2 : decide (10 < l.length) = false := decide_eq_false (by omega)
  have Hr := hid hr
  have Hli := hid hli
  have HG := hid hG
  have Hbad := hid hbad
  clear hr hw hG hli hbad
  go_enter Try.func3, Try.ntmps3
  go_wp2_with fail
  refine HC.out.mono ?_
  rintro en w1 ⟨rfl, hb1⟩
  have Kb1 := hid (blk_below (new_blk w _ _) hb1)
  have HB1 := hid (below_then' (below_alloc' (Below.refl w.heap.size w) _) hb1)
  have g0 : w1.cell? ⟨w.heap.size, 0, none⟩ = some (.int .i64 (n : Int)) := blk_cell' Kb1.out 0
  have g1 : w1.cell? ⟨w.heap.size, 1, none⟩ = some (.slice A E.length c) := blk_cell' Kb1.out 1
  have gl := blk_lt' Kb1.out
  clear hb1
  go_wp2_with fail
  refine (setup_bad n E ws A c B l d C f w1 (Hr.out.below HB1.out) (Hli.out.below HB1.out) HG.out (by omega) Hbad.out).mono ?_
  rintro en w2 ⟨rfl, hb2⟩
  have HB2 := hid (HB1.out.trans (hb2.mono HB1.out.size))
  clear hb2
  go_wp2_with fail
  refine (lives_any _).mono ?_
  rintro en wl ⟨rfl, hbl⟩
  have HB3 := hid (HB2.out.trans (hbl.mono HB2.out.size))
  clear hbl
  go_wp2
  go_ret
  exact ⟨rfl, HB3.out⟩
set_option maxRecDepth 100000 in
set_option maxHeartbeats 4000000 in
theorem sf_good (order : List Nat) (s : Nat) (hs : s < n) (hr : Arcs w A E) (hli : Nats w B order) (hw : Ints w C ws) (hG : GraphOk n E ws) (hk : n ≤ 10) (hE : E.length ≤ 24) (hol : order.length = n) (hlt : ∀ x ∈ order, x < n) (hnd : order.Nodup) :
    Calls Try.prog 3 #[.agg #[.int .i64 (n : Int), .slice A E.length c], .slice B n d, .slice C ws.length f, .int .i64 (s : Int)] w (RetTrue w) := by
  have HC := hid (small_yes (c := c) (f := f) (hr.below (below_alloc' (Below.refl _ _) (.cells #[.int .i64 (n : Int), .slice A E.length c] 24))) (hw.below (below_alloc' (Below.refl _ _) (.cells #[.int .i64 (n : Int), .slice A E.length c] 24))) hG hk hE)
  have q1 : decide ((10 : Int) < (n : Int)) = false := decide_eq_false (by omega)
  have q2 : decide (10 < n) = false := decide_eq_false (by omega)
  have Hr := hid hr
  have Hw := hid hw
  have Hli := hid hli
  have HG := hid hG
  have Hol := hid hol
  have Hlt := hid hlt
  have Hnd := hid hnd
  have Hs := hid hs
  have hn29 : n ≤ 29 := by omega
  clear hr hw hG hli hol hlt hnd
  go_enter Try.func3, Try.ntmps3
  go_wp2_with fail
  refine HC.out.mono ?_
  rintro en w1 ⟨rfl, hb1⟩
  have Kb1 := hid (blk_below (new_blk w _ _) hb1)
  have HB1 := hid (below_then' (below_alloc' (Below.refl w.heap.size w) _) hb1)
  have g0 : w1.cell? ⟨w.heap.size, 0, none⟩ = some (.int .i64 (n : Int)) := blk_cell' Kb1.out 0
  have g1 : w1.cell? ⟨w.heap.size, 1, none⟩ = some (.slice A E.length c) := blk_cell' Kb1.out 1
  have gl := blk_lt' Kb1.out
  clear hb1
  go_wp2_with fail
  refine (setup_good n E ws A c B order d C f w1 (Hr.out.below HB1.out) (Hli.out.below HB1.out) (Hw.out.below HB1.out) HG.out Hol.out Hlt.out Hnd.out).mono ?_
  rintro en w2 ⟨m, rfl, hM, hm, hb2⟩
  obtain ⟨h, M, order', ranks, edges, hMt, hGd⟩ := hM
  have HM := hid hMt
  have HGd := hid hGd
  have Kb2 := hid (blk_below Kb1.out hb2)
  have HB2 := hid (HB1.out.trans (hb2.mono HB1.out.size))
  have g0 : w2.cell? ⟨w.heap.size, 0, none⟩ = some (.int .i64 (n : Int)) := blk_cell' Kb2.out 0
  have g1 : w2.cell? ⟨w.heap.size, 1, none⟩ = some (.slice A E.length c) := blk_cell' Kb2.out 1
  have gl := blk_lt' Kb2.out
  clear hb2 hMt hGd hm
  go_wp2_with fail
  refine (sfrom_good HM.out HGd.out s Hs.out hn29).mono ?_
  rintro en w3 ⟨d1, A1, c1, rfl, hd1, hc1, hf1, hI1, hb3⟩
  have hl1 : d1.length ≤ 29 := by have := hd1.1; omega
  have HD1 := hid hd1
  have HI1 := hid hI1
  clear hd1 hI1 hf1
  have Kb3 := hid (blk_below Kb2.out hb3)
  have HB3 := hid (HB2.out.trans (hb3.mono HB2.out.size))
  have g0 : w3.cell? ⟨w.heap.size, 0, none⟩ = some (.int .i64 (n : Int)) := blk_cell' Kb3.out 0
  have g1 : w3.cell? ⟨w.heap.size, 1, none⟩ = some (.slice A E.length c) := blk_cell' Kb3.out 1
  have gl := blk_lt' Kb3.out
  have HM3 := hid (HM.out.below hb3)
  clear hb3
  go_wp2_with fail
  refine (ref43from n s E ws A C c f w3 HG.out (Hr.out.below HB3.out) (Hw.out.below HB3.out) Hs.out).mono ?_
  rintro en w4 ⟨d2, A2, c2, rfl, hd2, hc2, hf2, hI2, hb4⟩
  obtain rfl := isDist_unique hd2 HD1.out
  have HI2 := hid hI2
  clear hI2 hf2 hd2
  have Kb4 := hid (blk_below Kb3.out hb4)
  have HB4 := hid (HB3.out.trans (hb4.mono HB3.out.size))
  have g0 : w4.cell? ⟨w.heap.size, 0, none⟩ = some (.int .i64 (n : Int)) := blk_cell' Kb4.out 0
  have g1 : w4.cell? ⟨w.heap.size, 1, none⟩ = some (.slice A E.length c) := blk_cell' Kb4.out 1
  have gl := blk_lt' Kb4.out
  have HM4 := hid (HM3.out.below hb4)
  have HI14 := hid (HI1.out.below hb4)
  clear hb4
  go_wp2_with fail
  refine (sto_good HM4.out HGd.out s Hs.out hn29).mono ?_
  rintro en w5 ⟨d3, A3, c3, rfl, hd3, hc3, hf3, hI3, hb5⟩
  have hl3 : d3.length ≤ 29 := by have := hd3.1; omega
  have HD3 := hid hd3
  have HI3 := hid hI3
  clear hd3 hI3 hf3
  have Kb5 := hid (blk_below Kb4.out hb5)
  have HB5 := hid (HB4.out.trans (hb5.mono HB4.out.size))
  have g0 : w5.cell? ⟨w.heap.size, 0, none⟩ = some (.int .i64 (n : Int)) := blk_cell' Kb5.out 0
  have g1 : w5.cell? ⟨w.heap.size, 1, none⟩ = some (.slice A E.length c) := blk_cell' Kb5.out 1
  have gl := blk_lt' Kb5.out
  have HI15 := hid (HI14.out.below hb5)
  have HI25 := hid (HI2.out.below hb5)
  clear hb5
  go_wp2_with fail
  refine (ref43to n s E ws A C c f w5 HG.out (Hr.out.below HB5.out) (Hw.out.below HB5.out) Hs.out).mono ?_
  rintro en w6 ⟨d4, A4, c4, rfl, hd4, hc4, hf4, hI4, hb6⟩
  obtain rfl := isDist_unique hd4 HD3.out
  have HI4 := hid hI4
  clear hI4 hf4 hd4
  have HB6 := hid (HB5.out.trans (hb6.mono HB5.out.size))
  have HI16 := hid (HI15.out.below hb6)
  have HI26 := hid (HI25.out.below hb6)
  have HI36 := hid (HI3.out.below hb6)
  clear hb6
  go_wp2_with fail
  refine (equal_same HI16.out HI26.out (by omega)).mono ?_
  rintro en w7 ⟨rfl, n7, rfl⟩
  go_wp2_with fail
  refine (equal_same (HI36.out.below (below_drewN' (Below.refl _ _) n7)) (HI4.out.below (below_drewN' (Below.refl _ _) n7)) (by omega)).mono ?_
  rintro en w8 ⟨rfl, n8, rfl⟩
  have HB8 := hid (below_drewN' HB6.out (n7 + n8))
  go_wp2_with fail
  refine (lives_any _).mono ?_
  rintro en wl ⟨rfl, hbl⟩
  have HBl := hid (HB8.out.trans (hbl.mono HB8.out.size))
  clear hbl
  go_wp2
  go_ret
  exact ⟨rfl, HBl.out⟩
set_option maxRecDepth 100000 in
set_option maxHeartbeats 4000000 in
theorem sf_bad (order : List Nat) (s : Int) (hs : s < 0 ∨ (n : Int) ≤ s) (hr : Arcs w A E) (hli : Nats w B order) (hw : Ints w C ws) (hG : GraphOk n E ws) (hk : n ≤ 10) (hE : E.length ≤ 24) (hol : order.length = n) (hlt : ∀ x ∈ order, x < n) (hnd : order.Nodup) :
    Calls Try.prog 3 #[.agg #[.int .i64 (n : Int), .slice A E.length c], .slice B n d, .slice C ws.length f, .int .i64 s] w (RetTrue w) := by
  have HC := hid (small_yes (c := c) (f := f) (hr.below (below_alloc' (Below.refl _ _) (.cells #[.int .i64 (n : Int), .slice A E.length c] 24))) (hw.below (below_alloc' (Below.refl _ _) (.cells #[.int .i64 (n : Int), .slice A E.length c] 24))) hG hk hE)
  have q1 : decide ((10 : Int) < (n : Int)) = false := decide_eq_false (by omega)
  have q2 : decide (10 < n) = false := decide_eq_false (by omega)
  have Hr := hid hr
  have Hw := hid hw
  have Hli := hid hli
  have HG := hid hG
  have Hol := hid hol
  have Hlt := hid hlt
  have Hnd := hid hnd
  have Hs := hid hs
  have hn29 : n ≤ 29 := by omega
  clear hr hw hG hli hol hlt hnd
  go_enter Try.func3, Try.ntmps3
  go_wp2_with fail
  refine HC.out.mono ?_
  rintro en w1 ⟨rfl, hb1⟩
  have Kb1 := hid (blk_below (new_blk w _ _) hb1)
  have HB1 := hid (below_then' (below_alloc' (Below.refl w.heap.size w) _) hb1)
  have g0 : w1.cell? ⟨w.heap.size, 0, none⟩ = some (.int .i64 (n : Int)) := blk_cell' Kb1.out 0
  have g1 : w1.cell? ⟨w.heap.size, 1, none⟩ = some (.slice A E.length c) := blk_cell' Kb1.out 1
  have gl := blk_lt' Kb1.out
  clear hb1
  go_wp2_with fail
  refine (setup_good n E ws A c B order d C f w1 (Hr.out.below HB1.out) (Hli.out.below HB1.out) (Hw.out.below HB1.out) HG.out Hol.out Hlt.out Hnd.out).mono ?_
  rintro en w2 ⟨m, rfl, hM, hm, hb2⟩
  obtain ⟨h, M, order', ranks, edges, hMt, hGd⟩ := hM
  have HM := hid hMt
  have HGd := hid hGd
  have Kb2 := hid (blk_below Kb1.out hb2)
  have HB2 := hid (HB1.out.trans (hb2.mono HB1.out.size))
  have g0 : w2.cell? ⟨w.heap.size, 0, none⟩ = some (.int .i64 (n : Int)) := blk_cell' Kb2.out 0
  have g1 : w2.cell? ⟨w.heap.size, 1, none⟩ = some (.slice A E.length c) := blk_cell' Kb2.out 1
  have gl := blk_lt' Kb2.out
  clear hb2 hMt hGd hm
  go_wp2_with fail
  refine (sfrom_bad HM.out HGd.out s Hs.out ).mono ?_
  rintro en w3 ⟨rfl, hb3⟩
  have Kb3 := hid (blk_below Kb2.out hb3)
  have HB3 := hid (HB2.out.trans (hb3.mono HB2.out.size))
  have g0 : w3.cell? ⟨w.heap.size, 0, none⟩ = some (.int .i64 (n : Int)) := blk_cell' Kb3.out 0
  have g1 : w3.cell? ⟨w.heap.size, 1, none⟩ = some (.slice A E.length c) := blk_cell' Kb3.out 1
  have gl := blk_lt' Kb3.out
  have HM3 := hid (HM.out.below hb3)
  clear hb3
  go_wp2_with fail
  refine (ref43from_bad n s E ws A C c f w3 HG.out (Hr.out.below HB3.out) (Hw.out.below HB3.out) Hs.out).mono ?_
  rintro en w4 ⟨rfl, hb4⟩
  have Kb4 := hid (blk_below Kb3.out hb4)
  have HB4 := hid (HB3.out.trans (hb4.mono HB3.out.size))
  have g0 : w4.cell? ⟨w.heap.size, 0, none⟩ = some (.int .i64 (n : Int)) := blk_cell' Kb4.out 0
  have g1 : w4.cell? ⟨w.heap.size, 1, none⟩ = some (.slice A E.length c) := blk_cell' Kb4.out 1
  have gl := blk_lt' Kb4.out
  have HM4 := hid (HM3.out.below hb4)
  clear hb4
  go_wp2_with fail
  refine (sto_bad HM4.out HGd.out s Hs.out ).mono ?_
  rintro en w5 ⟨rfl, hb5⟩
  have Kb5 := hid (blk_below Kb4.out hb5)
  have HB5 := hid (HB4.out.trans (hb5.mono HB4.out.size))
  have g0 : w5.cell? ⟨w.heap.size, 0, none⟩ = some (.int .i64 (n : Int)) := blk_cell' Kb5.out 0
  have g1 : w5.cell? ⟨w.heap.size, 1, none⟩ = some (.slice A E.length c) := blk_cell' Kb5.out 1
  have gl := blk_lt' Kb5.out
  clear hb5
  go_wp2_with fail
  refine (ref43to_bad n s E ws A C c f w5 HG.out (Hr.out.below HB5.out) (Hw.out.below HB5.out) Hs.out).mono ?_
  rintro en w6 ⟨rfl, hb6⟩
  have HB6 := hid (HB5.out.trans (hb6.mono HB5.out.size))
  clear hb6
  go_wp2_with fail
  refine (equal_none).mono ?_
  rintro en w7 ⟨rfl, n7, rfl⟩
  go_wp2_with fail
  refine (equal_none).mono ?_
  rintro en w8 ⟨rfl, n8, rfl⟩
  have HB8 := hid (below_drewN' HB6.out (n7 + n8))
  go_wp2_with fail
  refine (lives_any _).mono ?_
  rintro en wl ⟨rfl, hbl⟩
  have HBl := hid (HB8.out.trans (hbl.mono HB8.out.size))
  clear hbl
  go_wp2
  go_ret
  exact ⟨rfl, HBl.out⟩
theorem sf_any (n : Int) (xs : List (Int × Int)) (l ws : List Int) (s : Int) (hr : ArcsI w A xs) (hli : Ints w B l) (hw : Ints w C ws) (h1 : xs.length ≤ 9223372036854775807) (h2 : l.length ≤ 9223372036854775807) (h3 : ws.length ≤ 9223372036854775807) (_ : -9223372036854775808 ≤ n ∧ n ≤ 9223372036854775807) (_ : -9223372036854775808 ≤ s ∧ s ≤ 9223372036854775807) :
    Calls Try.prog 3 #[.agg #[.int .i64 n, .slice A xs.length c], .slice B l.length d, .slice C ws.length f, .int .i64 s] w (RetTrue w) := by
  by_cases hS : SmallP n xs ws
  · obtain ⟨k, E, rfl, rfl, hG, hk, hE, hwl⟩ := hS.graph
    have hr' := arcs_toI.2 hr
    rw [toI_length]
    by_cases hl : l.length ≤ 10
    · by_cases hp : PermI k l
      · obtain ⟨order, rfl, hol, hlt, hnd⟩ := hp.nats
        have hN := ints_nats.1 hli
        have e : (ofNats order).length = k := by simp [ofNats, hol]
        rw [e]
        by_cases hs : 0 ≤ s ∧ s < (k : Int)
        · obtain ⟨s', rfl⟩ : ∃ s' : Nat, s = (s' : Int) := ⟨s.toNat, by omega⟩
          exact sf_good order s' (by omega) hr' hN hw hG hk hE hol hlt hnd
        · exact sf_bad order s (by omega) hr' hN hw hG hk hE hol hlt hnd
      · exact sf_noperm l s hr' hli hw hG hk hE hl hp
    · exact sf_long l s hr' hw hG hk hE (by omega) h2
  · exact sf_notsmall n xs l s hr hw hS h1 h3
end

end Go.Proofs.Ytpfjannhggcmiaa
