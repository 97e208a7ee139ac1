/- Contracts: the copy of a hierarchy's graph; the lower vertices of an edge. -/
import Derived.Test.YtpfjannhggcmiaaGet2
namespace Go.Proofs.Ytpfjannhggcmiaa
open Go.RowKit Go.Maps

/-! ### Graph -/
/-- A graph is returned by value: its number of vertices and a new row of its arcs. -/
def RetGraph (w : World) (n : Nat) (xs : List (Nat × Nat)) (en : Ending) (w' : World) : Prop :=
  ∃ A c, en = .returned (.agg #[.int .i64 (n : Int), .slice A xs.length c]) ∧ xs.length ≤ c ∧ Fresh w.heap.size A ∧ Arcs w' A xs ∧ Below w.heap.size w w'
set_option maxHeartbeats 1000000 in
theorem graph_any {h : Nat} {D : HD} {w : World} (H : HierAt w h D) :
    Calls Try.prog 64 #[.pointer (some ⟨h, 0, none⟩)] w (RetGraph w D.n D.arcs) := by
  have lh := H.lt
  have c0 := H.c0
  obtain ⟨A, c, c1, hc, hr⟩ := H.arcs
  have hn := H.ok.arcs_len
  have nh : h ≠ w.heap.size := Nat.ne_of_lt lh
  have Hr := hid hr
  clear H hr
  go_enter Try.func64, Try.ntmps64
  go_wp2
  go_region_held3 (fun w' => w'.cell? ⟨h, 0, none⟩ = some (.int .i64 (D.n : Int)) ∧ w'.cell? ⟨h, 1, none⟩ = some (.slice A D.arcs.length c)) (first | exact ⟨k0, k1⟩ | go_keep | exact ⟨(set_other _ nh).trans ((set_other _ nh).trans k0), (set_other _ nh).trans ((set_other _ nh).trans k1)⟩)
    (first | (go_at_call 68; refine (clone_arcs _ _ _ _ (by exact Hr.out.below (below_alloc' (Below.refl _ _) _).drew) (by omega)).mono ?_; rintro e w1 ⟨A', c', rfl, hc', hf', hN, hb⟩; have hb2 := below_then' (below_alloc' (Below.refl w.heap.size w) _).drew hb; have k0 := cell_later hb2 c0; have k1 := cell_later hb2 c1; have kb := blk_below (show (w.alloc (.cells #[.int .i64 0, .slice none 0 0] 24)).drew.heap[w.heap.size]? = _ from new_blk w _ _) hb; have e0 : w1.cell? ⟨w.heap.size, 0, none⟩ = some (.int .i64 0) := blk_cell' kb 0; have e1 : w1.cell? ⟨w.heap.size, 1, none⟩ = some (.slice none 0 0) := blk_cell' kb 1; have f0 := blk_free kb 0; have f1 := blk_free kb 1; have fl := blk_lt' kb; have KB := hid kb; clear kb))
  go_wp2
  have q := blk_set' (blk_set' KB.out 0 (.int .i64 (D.n : Int))) 1 (.slice A' D.arcs.length c')
  have q0 := blk_cell' q 0
  have q1 := blk_cell' q 1
  simp at q0 q1
  refine bodyPost_ret (v := .agg #[.int .i64 (D.n : Int), .slice A' D.arcs.length c']) (by simp [results, Try.results64, go_sem, q0, q1]) rfl ⟨A', c', rfl, hc', ?_, ?_, ?_⟩
  · exact hf'.mono (by simp)
  · have hne : ∀ ad, A' = some ad → ad.block ≠ w.heap.size := fun ad e => by have := hf' ad e; simp at this; omega
    exact (hN.far hne _).far hne _
  · exact (hb2.setCell (Nat.le_refl _) _).setCell (Nat.le_refl _) _

end Go.Proofs.Ytpfjannhggcmiaa
