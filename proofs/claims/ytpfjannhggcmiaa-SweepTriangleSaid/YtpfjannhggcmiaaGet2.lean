/- Contracts of the functions that hand out copies of a hierarchy's lists. -/
import Derived.Test.YtpfjannhggcmiaaGet
namespace Go.Proofs.Ytpfjannhggcmiaa
open Go.RowKit Go.Maps

/-! ### copies -/
theorem range_map_nats (xs : List Nat) : (List.range xs.length).map (natc xs) = xs.map natv := by
  apply List.ext_getElem
  · simp
  · intro i h1 h2
    simp at h1
    simp [natc, natv, List.getD, h1]
theorem range_map_ints (xs : List Int) : (List.range xs.length).map (intc xs) = xs.map intv := by
  apply List.ext_getElem
  · simp
  · intro i h1 h2
    simp at h1
    simp [intc, intv, List.getD, h1]
def RetOwnNats (w : World) (xs : List Nat) (en : Ending) (w' : World) : Prop :=
  ∃ v, en = .returned v ∧ w'.ownsRow w.heap.size 3 1 v xs.length (xs.map natv) ∧ Below w.heap.size w w'
theorem clone_nats (A : Option Addr) (xs : List Nat) (c : Nat) (w : World) (hr : Nats w A xs) (hn : xs.length ≤ 1099511627776) :
    Calls Try.prog 69 #[.slice A xs.length c] w (RetNats w xs) := by
  refine (clone_int A xs.length c (natc xs) w hr (fun _ _ => rfl) (by omega)).mono ?_
  rintro e w' ⟨v, rfl, ho, hb⟩
  rw [range_map_nats] at ho
  obtain ⟨A', c', rfl, hc, hf, hN⟩ := own_nats ho
  exact ⟨A', c', rfl, hc, hf, hN, hb⟩
def arcc (xs : List (Nat × Nat)) (i : Nat) : Value := if i % 2 = 0 then .int .i64 (((xs.getD (i / 2) (0, 0)).1 : Nat) : Int) else .int .i64 (((xs.getD (i / 2) (0, 0)).2 : Nat) : Int)
theorem arcs_row {w : World} {A : Option Addr} {xs : List (Nat × Nat)} : Arcs w A xs ↔ Row w A (xs.length * 2) (arcc xs) := by
  constructor
  · rintro (h | ⟨b, o, hA, hb, hc⟩)
    · exact .inl (by omega)
    · refine .inr ⟨b, o, hA, hb, fun i hi => ?_⟩
      have h2 := hc (i / 2) (by omega)
      rcases Nat.mod_two_eq_zero_or_one i with h | h
      · have e : i / 2 * 2 = i := by omega
        rw [e] at h2
        simpa [arcc, h] using h2.1
      · have e : o + i / 2 * 2 + 1 = o + i := by omega
        rw [e] at h2
        simpa [arcc, h] using h2.2
  · rintro (h | ⟨b, o, hA, hb, hc⟩)
    · exact .inl (by omega)
    · refine .inr ⟨b, o, hA, hb, fun i hi => ⟨?_, ?_⟩⟩
      · have := hc (i * 2) (by omega)
        have e1 : i * 2 % 2 = 0 := by omega
        have e2 : i * 2 / 2 = i := by omega
        simpa [arcc, e1, e2] using this
      · have := hc (i * 2 + 1) (by omega)
        have e1 : (i * 2 + 1) % 2 = 1 := by omega
        have e2 : (i * 2 + 1) / 2 = i := by omega
        simpa [arcc, e1, e2, Nat.add_assoc] using this
theorem own_arcs {w : World} {base : Nat} {e : TypeId} {v : Value} {xs : List (Nat × Nat)} (h : w.ownsRow base e 2 v xs.length ((List.range (xs.length * 2)).map (arcc xs))) :
    ∃ A c, v = .slice A xs.length c ∧ xs.length ≤ c ∧ Fresh base A ∧ Arcs w A xs := by
  obtain ⟨A, c, hv, hc, hf, hr⟩ := own_row h
  refine ⟨A, c, hv, hc, hf, arcs_row.2 ?_⟩
  rcases hr with h0 | ⟨b, o, hA, hb, hcell⟩
  · exact .inl h0
  · refine .inr ⟨b, o, hA, hb, fun i hi => (hcell i hi).trans ?_⟩
    simp [List.getD, hi]
theorem clone_arcs (A : Option Addr) (xs : List (Nat × Nat)) (c : Nat) (w : World) (hr : Arcs w A xs) (hn : xs.length ≤ 1099511627776) :
    Calls Try.prog 68 #[.slice A xs.length c] w (RetArcs w xs) := by
  refine (clone_arc A xs.length c (arcc xs) w (arcs_row.1 hr) (fun i _ => by unfold arcc; split <;> rfl) (by omega)).mono ?_
  rintro e w' ⟨v, rfl, ho, hb⟩
  obtain ⟨A', c', rfl, hc, hf, hN⟩ := own_arcs ho
  exact ⟨A', c', rfl, hc, hf, hN, hb⟩

/-! ### Order, Edges, Graph, Up, Parent -/
set_option maxHeartbeats 400000 in
theorem order_any {h : Nat} {D : HD} {w : World} (H : HierAt w h D) :
    Calls Try.prog 77 #[.pointer (some ⟨h, 0, none⟩)] w (RetNats w D.order) := by
  have lh := H.lt
  obtain ⟨A, c, c2, hc, hr⟩ := H.order
  have hn := H.ok.n_le
  have hol := H.ok.order_len
  rw [← hol] at c2 hc hn
  have Hr := hid hr
  clear H hr hol
  go_enter Try.func77, Try.ntmps77
  go_wp2_with (first | (go_at_call 69; refine (clone_nats _ _ _ _ Hr.out (by omega)).mono ?_; rintro e w' ⟨A', c', rfl, hc', hf', hN, hb⟩))
  go_ret
  exact ⟨A', c', rfl, hc', hf', hN, hb⟩
set_option maxHeartbeats 400000 in
theorem edges_any {h : Nat} {D : HD} {w : World} (H : HierAt w h D) :
    Calls Try.prog 73 #[.pointer (some ⟨h, 0, none⟩)] w (RetArcs w D.edges) := by
  have lh := H.lt
  obtain ⟨A, c, c2, hc, hr⟩ := H.edges
  have hn := H.ok.edges_len
  have Hr := hid hr
  clear H hr
  go_enter Try.func73, Try.ntmps73
  go_wp2_with (first | (go_at_call 68; refine (clone_arcs _ _ _ _ Hr.out hn).mono ?_; rintro e w' ⟨A', c', rfl, hc', hf', hN, hb⟩))
  go_ret
  exact ⟨A', c', rfl, hc', hf', hN, hb⟩
set_option maxHeartbeats 400000 in
theorem up_any {h : Nat} {D : HD} (v : Nat) {w : World} (H : HierAt w h D) (hv : v < D.n) (hl : (D.up.getD v []).length ≤ 1099511627776) :
    Calls Try.prog 82 #[.pointer (some ⟨h, 0, none⟩), .int .i64 v] w (RetNats w (D.up.getD v [])) := by
  have lh := H.lt
  obtain ⟨A, c, c2, hc, hr⟩ := H.up
  obtain ⟨b, o, A', c', rfl, hb, cv, hc', hN⟩ := hr.at_ (k := v) (by rw [H.ok.up_len]; exact hv)
  have HH := hid H
  have HN := hid hN
  have Hl := hid hl
  clear H hr hN hl
  go_enter Try.func82, Try.ntmps82
  go_wp2_with (first | (go_at_call 97; refine (has_yes _ HH.out hv).mono ?_; rintro e w' ⟨rfl, rfl⟩) | (go_at_call 69; refine (clone_nats _ _ _ _ HN.out Hl.out).mono ?_; rintro e w' ⟨A'', c'', rfl, hc'', hf'', hN'', hb''⟩))
  go_ret
  exact ⟨A'', c'', rfl, hc'', hf'', hN'', hb''⟩

/-- The lowest higher neighbour of a vertex, or -1. -/
def HD.parent (D : HD) (v : Nat) : Int := if (D.up.getD v []).length = 0 then -1 else (((D.edges.getD ((D.up.getD v []).getD 0 0) (0, 0)).2 : Nat) : Int)
set_option maxHeartbeats 1000000 in
theorem parent_any {h : Nat} {D : HD} (v : Nat) {w : World} (H : HierAt w h D) (hv : v < D.n) :
    Calls Try.prog 102 #[.pointer (some ⟨h, 0, none⟩), .int .i64 v] w fun e w' => e = .returned (.int .i64 (D.parent v)) ∧ Below w.heap.size w w' := by
  have lh := H.lt
  obtain ⟨A, c, c6, hc, hr⟩ := H.up
  obtain ⟨b, o, A', c', rfl, hb, cv, hc', hN⟩ := hr.at_ (k := v) (by rw [H.ok.up_len]; exact hv)
  obtain ⟨Ae, ce, c4, hce, hE⟩ := H.edges
  have hup := H.ok.up_lt v hv
  have hp : Hid (D.parent v = if (D.up.getD v []).length = 0 then -1 else (((D.edges.getD ((D.up.getD v []).getD 0 0) (0, 0)).2 : Nat) : Int)) := rfl
  obtain ⟨L, hL⟩ : ∃ L, L = D.up.getD v [] := ⟨_, rfl⟩
  rw [← hL] at hN cv hc' hup hp
  have HH := hid H
  clear H hr hL
  by_cases h0 : L.length = 0
  · have hz : ((L.length : Int) == 0) = true := by simp only [h0]; rfl
    have hz' : (L.length == 0) = true := by simp only [h0]; rfl
    have hp2 : Hid (D.parent v = -1) := by rw [hp.out, if_pos h0]; exact rfl
    clear hN h0 hE hup hp
    go_enter Try.func102, Try.ntmps102
    go_wp2_with (first | (go_at_call 97; refine (has_yes _ HH.out hv).mono ?_; rintro e w' ⟨rfl, rfl⟩))
    go_ret
    exact ⟨by simp [hp2.out], Below.refl _ _⟩
  · have h00 : 0 < L.length := by omega
    have hp2 : Hid (D.parent v = (((D.edges.getD (L.getD 0 0) (0, 0)).2 : Nat) : Int)) := by rw [hp.out, if_neg h0]; exact rfl
    obtain ⟨b2, o2, rfl, hb2, cu⟩ := hN.at_ (k := 0) h00
    have hlt := hup 0 h00
    obtain ⟨u, hu⟩ : ∃ u, u = L.getD 0 0 := ⟨_, rfl⟩
    rw [← hu] at hp2 cu hlt
    obtain ⟨b3, o3, rfl, hb3, _, ce2⟩ := hE.at_ (k := u) hlt
    obtain ⟨x, hx⟩ : ∃ x, x = (D.edges.getD u (0, 0)).2 := ⟨_, rfl⟩
    rw [← hx] at hp2 ce2
    rw [Nat.add_zero] at cu
    have hz : ((L.length : Int) == 0) = false := by rw [beq_eq_false_iff_ne]; omega
    have hz' : (L.length == 0) = false := by rw [beq_eq_false_iff_ne]; omega
    clear hN h0 hE hup hu hx hp
    go_enter Try.func102, Try.ntmps102
    go_wp2_with (first | (go_at_call 97; refine (has_yes _ HH.out hv).mono ?_; rintro e w' ⟨rfl, rfl⟩))
    go_quiet (fail)
    go_wp2
    go_ret
    exact ⟨by simp [hp2.out], below_drewN' (Below.refl _ _) _⟩

end Go.Proofs.Ytpfjannhggcmiaa
