/- A metric in memory; contracts of its getters. -/
import Derived.Test.YtpfjannhggcmiaaChk
import Derived.Test.YtpfjannhggcmiaaNew2
namespace Go.Proofs.Ytpfjannhggcmiaa
open Go.RowKit Go.Maps

/-- Block m is a metric over the hierarchy in block h. -/
structure MetAt (w : World) (m h : Nat) (M : MD) : Prop where
  hier : HierAt w h M.h
  ok : M.ok
  blk : ∃ Aw cw Aa ca Au cu Ad cd, w.heap[m]? = some (.cells #[.pointer (some ⟨h, 0, none⟩), .slice Aw M.w.length cw, .slice Aa M.arcs.length ca, .slice Au M.up.length cu, .slice Ad M.down.length cd] 119 (0, 0)) ∧
    (M.w.length ≤ cw ∧ M.arcs.length ≤ ca ∧ M.up.length ≤ cu ∧ M.down.length ≤ cd) ∧ Ints w Aw M.w ∧ Lists w Aa M.arcs ∧ Ints w Au M.up ∧ Ints w Ad M.down
theorem MetAt.below {w W : World} {m h : Nat} {M : MD} (H : MetAt w m h M) (hb : Below w.heap.size w W) : MetAt W m h M := by
  obtain ⟨h1, h2, Aw, cw, Aa, ca, Au, cu, Ad, cd, h3, h4, h5, h6, h7, h8⟩ := H
  exact ⟨h1.below hb, h2, Aw, cw, Aa, ca, Au, cu, Ad, cd, blk_below h3 hb, h4, h5.below hb, h6.below hb, h7.below hb, h8.below hb⟩
theorem MetAt.lt {w : World} {m h : Nat} {M : MD} (H : MetAt w m h M) : m < w.heap.size := by
  obtain ⟨_, _, Aw, cw, Aa, ca, Au, cu, Ad, cd, h3, _⟩ := H
  exact blk_lt' h3
theorem MetAt.c0 {w : World} {m h : Nat} {M : MD} (H : MetAt w m h M) : w.cell? ⟨m, 0, none⟩ = some (.pointer (some ⟨h, 0, none⟩)) := by
  obtain ⟨_, _, Aw, cw, Aa, ca, Au, cu, Ad, cd, h3, _⟩ := H
  exact blk_cell' h3 0
theorem MetAt.ws {w : World} {m h : Nat} {M : MD} (H : MetAt w m h M) : ∃ A c, w.cell? ⟨m, 1, none⟩ = some (.slice A M.w.length c) ∧ M.w.length ≤ c ∧ Ints w A M.w := by
  obtain ⟨_, _, Aw, cw, Aa, ca, Au, cu, Ad, cd, h3, h4, h5, h6, h7, h8⟩ := H
  exact ⟨_, _, blk_cell' h3 1, h4.1, h5⟩
theorem MetAt.arcs {w : World} {m h : Nat} {M : MD} (H : MetAt w m h M) : ∃ A c, w.cell? ⟨m, 2, none⟩ = some (.slice A M.arcs.length c) ∧ M.arcs.length ≤ c ∧ Lists w A M.arcs := by
  obtain ⟨_, _, Aw, cw, Aa, ca, Au, cu, Ad, cd, h3, h4, h5, h6, h7, h8⟩ := H
  exact ⟨_, _, blk_cell' h3 2, h4.2.1, h6⟩
theorem MetAt.up {w : World} {m h : Nat} {M : MD} (H : MetAt w m h M) : ∃ A c, w.cell? ⟨m, 3, none⟩ = some (.slice A M.up.length c) ∧ M.up.length ≤ c ∧ Ints w A M.up := by
  obtain ⟨_, _, Aw, cw, Aa, ca, Au, cu, Ad, cd, h3, h4, h5, h6, h7, h8⟩ := H
  exact ⟨_, _, blk_cell' h3 3, h4.2.2.1, h7⟩
theorem MetAt.down {w : World} {m h : Nat} {M : MD} (H : MetAt w m h M) : ∃ A c, w.cell? ⟨m, 4, none⟩ = some (.slice A M.down.length c) ∧ M.down.length ≤ c ∧ Ints w A M.down := by
  obtain ⟨_, _, Aw, cw, Aa, ca, Au, cu, Ad, cd, h3, h4, h5, h6, h7, h8⟩ := H
  exact ⟨_, _, blk_cell' h3 4, h4.2.2.2, h8⟩

/-- A value is returned; the world is as it was. -/
def RetVal (w : World) (v : Value) (en : Ending) (w' : World) : Prop := en = .returned v ∧ w' = w

set_option maxHeartbeats 1000000 in
theorem mhier_any {w : World} {m h : Nat} {M : MD} (H : MetAt w m h M) : Calls Try.prog 42 #[.pointer (some ⟨m, 0, none⟩)] w (RetVal w (.pointer (some ⟨h, 0, none⟩))) := by
  have c0 := H.c0
  have lm := H.lt
  clear H
  go_enter Try.func42, Try.ntmps42
  go_wp2
  go_ret
  exact ⟨rfl, rfl⟩
set_option maxHeartbeats 1000000 in
theorem mup_any {w : World} {m h : Nat} {M : MD} (e : Nat) (H : MetAt w m h M) (he : e < M.h.edges.length) : Calls Try.prog 80 #[.pointer (some ⟨m, 0, none⟩), .int .i64 (e : Int)] w (RetVal w (.int .i64 (M.up.getD e 0))) := by
  have lm := H.lt
  obtain ⟨A, c, c3, hc, hI⟩ := H.up
  have hlt : e < M.up.length := by rw [H.ok.up_len]; exact he
  have hb : M.up.length ≤ 1099511627776 := by rw [H.ok.up_len]; exact H.ok.h_ok.edges_len
  obtain ⟨b, o, rfl, hbb, cx⟩ := hI.at_ hlt
  obtain ⟨x, hx⟩ : ∃ x, M.up.getD e 0 = x := ⟨_, rfl⟩
  rw [hx] at cx ⊢
  have d1 : decide ((e : Int) < 0) = false := decide_eq_false (by omega)
  have d2 : decide ((M.up.length : Int) ≤ (e : Int)) = false := decide_eq_false (by omega)
  have d3 : decide (M.up.length ≤ e) = false := decide_eq_false (by omega)
  clear H hI hx
  go_enter Try.func80, Try.ntmps80
  go_wp2
  go_ret
  exact ⟨rfl, rfl⟩
set_option maxHeartbeats 1000000 in
theorem mdown_any {w : World} {m h : Nat} {M : MD} (e : Nat) (H : MetAt w m h M) (he : e < M.h.edges.length) : Calls Try.prog 79 #[.pointer (some ⟨m, 0, none⟩), .int .i64 (e : Int)] w (RetVal w (.int .i64 (M.down.getD e 0))) := by
  have lm := H.lt
  obtain ⟨A, c, c3, hc, hI⟩ := H.down
  have hlt : e < M.down.length := by rw [H.ok.down_len]; exact he
  have hb : M.down.length ≤ 1099511627776 := by rw [H.ok.down_len]; exact H.ok.h_ok.edges_len
  obtain ⟨b, o, rfl, hbb, cx⟩ := hI.at_ hlt
  obtain ⟨x, hx⟩ : ∃ x, M.down.getD e 0 = x := ⟨_, rfl⟩
  rw [hx] at cx ⊢
  have d1 : decide ((e : Int) < 0) = false := decide_eq_false (by omega)
  have d2 : decide ((M.down.length : Int) ≤ (e : Int)) = false := decide_eq_false (by omega)
  have d3 : decide (M.down.length ≤ e) = false := decide_eq_false (by omega)
  clear H hI hx
  go_enter Try.func79, Try.ntmps79
  go_wp2
  go_ret
  exact ⟨rfl, rfl⟩
set_option maxHeartbeats 1000000 in
theorem mweights_any {w : World} {m h : Nat} {M : MD} (H : MetAt w m h M) : Calls Try.prog 53 #[.pointer (some ⟨m, 0, none⟩)] w (RetBlk w M.w) := by
  have lm := H.lt
  obtain ⟨A, c, c1, hc, hI⟩ := H.ws
  have hb : M.w.length ≤ 1099511627776 := by rw [H.ok.w_len]; have := H.ok.h_ok.arcs_len; omega
  have Hcp := hid (copied_any A M.w c w hI hb)
  clear H hI
  go_enter Try.func53, Try.ntmps53
  go_wp2_with fail
  refine Hcp.out.mono ?_
  rintro e w1 ⟨g, rfl, hg, hblk, hb1⟩
  have HB := hid hb1
  have Hblk := hid hblk
  clear hb1 hblk
  go_wp2
  go_ret
  exact ⟨g, rfl, hg, Hblk.out, HB.out⟩

end Go.Proofs.Ytpfjannhggcmiaa
