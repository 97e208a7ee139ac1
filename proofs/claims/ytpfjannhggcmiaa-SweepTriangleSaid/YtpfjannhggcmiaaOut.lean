/- Contracts of Graph and Edges once more: the rows that they return are owned by the caller. -/
import Derived.Test.YtpfjannhggcmiaaWt
namespace Go.Proofs.Ytpfjannhggcmiaa
open Go.RowKit Go.Maps

def arcvs (xs : List (Nat × Nat)) : List Value := (List.range (xs.length * 2)).map (arcc xs)
/-- A new row of arcs, owned by the caller. -/
def RetArcsOwn (w : World) (xs : List (Nat × Nat)) (en : Ending) (w' : World) : Prop :=
  ∃ v, en = .returned v ∧ w'.ownsRow w.heap.size 48 2 v xs.length (arcvs xs) ∧ Below w.heap.size w w'
def RetGraphOwn (w : World) (n : Nat) (xs : List (Nat × Nat)) (en : Ending) (w' : World) : Prop :=
  ∃ v, en = .returned (.agg #[.int .i64 (n : Int), v]) ∧ w'.ownsRow w.heap.size 48 2 v xs.length (arcvs xs) ∧ Below w.heap.size w w'
theorem clone_arcs_own (A : Option Addr) (xs : List (Nat × Nat)) (c : Nat) (w : World) (hr : Arcs w A xs) (hn : xs.length ≤ 1099511627776) :
    Calls Try.prog 68 #[.slice A xs.length c] w (RetArcsOwn w xs) :=
  clone_arc A xs.length c (arcc xs) w (arcs_row.1 hr) (fun i _ => by unfold arcc; split <;> rfl) (by omega)
set_option maxHeartbeats 1000000 in
theorem edges_own {h : Nat} {D : HD} {w : World} (H : HierAt w h D) :
    Calls Try.prog 73 #[.pointer (some ⟨h, 0, none⟩)] w (RetArcsOwn w D.edges) := by
  have lh := H.lt
  obtain ⟨A, c, c2, hc, hr⟩ := H.edges
  have hn := H.ok.edges_len
  have Hcl := hid (clone_arcs_own A D.edges c w hr hn)
  clear H hr
  go_enter Try.func73, Try.ntmps73
  go_wp2_with fail
  refine Hcl.out.mono ?_
  rintro e w' ⟨v, rfl, hown, hb⟩
  obtain ⟨A', c', hv', _, _, _⟩ := own_row hown
  subst hv'
  have Hown := hid hown
  have Hb := hid hb
  clear hown hb
  go_wp2
  go_ret
  exact ⟨_, rfl, Hown.out, Hb.out⟩
set_option maxHeartbeats 2000000 in
theorem graph_own {h : Nat} {D : HD} {w : World} (H : HierAt w h D) :
    Calls Try.prog 64 #[.pointer (some ⟨h, 0, none⟩)] w (RetGraphOwn w D.n D.arcs) := by
  have lh := H.lt
  have c0 := H.c0
  obtain ⟨A, c, c1, hc, hr⟩ := H.arcs
  have hn := H.ok.arcs_len
  have nh : h ≠ w.heap.size := Nat.ne_of_lt lh
  have Hr := hid hr
  clear H hr
  go_enter Try.func64, Try.ntmps64
  go_wp2
  go_region_held3 (fun w' => w'.cell? ⟨h, 0, none⟩ = some (.int .i64 (D.n : Int)) ∧ w'.cell? ⟨h, 1, none⟩ = some (.slice A D.arcs.length c)) (first | exact ⟨k0, k1⟩ | go_keep | exact ⟨(set_other _ nh).trans ((set_other _ nh).trans k0), (set_other _ nh).trans ((set_other _ nh).trans k1)⟩)
    (first | (go_at_call 68; refine (clone_arcs_own _ _ _ _ (by exact Hr.out.below (below_alloc' (Below.refl _ _) _).drew) (by omega)).mono ?_; rintro e w1 ⟨v', rfl, hown, hb⟩; obtain ⟨A', c', hv', hc', hf', _⟩ := own_row hown; subst hv'; have hb2 := below_then' (below_alloc' (Below.refl w.heap.size w) _).drew hb; have k0 := cell_later hb2 c0; have k1 := cell_later hb2 c1; have kb := blk_below (show (w.alloc (.cells #[.int .i64 0, .slice none 0 0] 24)).drew.heap[w.heap.size]? = _ from new_blk w _ _) hb; have e0 : w1.cell? ⟨w.heap.size, 0, none⟩ = some (.int .i64 0) := blk_cell' kb 0; have e1 : w1.cell? ⟨w.heap.size, 1, none⟩ = some (.slice none 0 0) := blk_cell' kb 1; have f0 := blk_free kb 0; have f1 := blk_free kb 1; have fl := blk_lt' kb; have KB := hid kb; clear kb))
  go_wp2
  have q := blk_set' (blk_set' KB.out 0 (.int .i64 (D.n : Int))) 1 (.slice A' D.arcs.length c')
  have q0 := blk_cell' q 0
  have q1 := blk_cell' q 1
  simp at q0 q1
  refine bodyPost_ret (v := .agg #[.int .i64 (D.n : Int), .slice A' D.arcs.length c']) (by simp [results, Try.results64, go_sem, q0, q1]) rfl ⟨_, rfl, ?_, ?_⟩
  · have hm := own_mono hown (base' := w.heap.size) (by simp)
    have ho1 := own_same hm (w' := w1.setCell ⟨w.heap.size, 0, none⟩ (.int .i64 (D.n : Int))) (fun k hk => Below.heap_setCell w1 _ _ k (by rintro rfl; exact own_ne hm KB.out (by decide) hk.symm))
    exact own_same ho1 (fun k hk => Below.heap_setCell _ _ _ k (by rintro rfl; exact own_ne hm KB.out (by decide) hk.symm))
  · exact (hb2.setCell (Nat.le_refl _) _).setCell (Nat.le_refl _) _

end Go.Proofs.Ytpfjannhggcmiaa
