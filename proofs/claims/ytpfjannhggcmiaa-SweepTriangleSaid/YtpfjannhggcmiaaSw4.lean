/- Contracts of sweep.From and sweep.To: on a metric and a vertex, on a metric and no vertex, on no metric. -/
import Derived.Test.YtpfjannhggcmiaaSw3
namespace Go.Proofs.Ytpfjannhggcmiaa
open Go.RowKit Go.Maps

set_option maxHeartbeats 1000000 in
theorem all_from_bad {w : World} {m h : Nat} {M : MD} (H : MetAt w m h M) (hol : M.h.order.length = M.h.n) (s : Int) (hs : s < 0 ∨ (M.h.n : Int) ≤ s) :
    Calls Try.prog 43 #[.pointer (some ⟨m, 0, none⟩), .int .i64 s, .bool false] w (RetErr w) := by
  have HM := hid H
  have Hol := hid hol
  clear H hol
  by_cases h0 : s < 0
  · have d1 : decide (s < 0) = true := decide_eq_true h0
    clear hs
    go_enter Try.func43, Try.ntmps43
    go_wp2_with fail
    refine (mhier_any HM.out).mono ?_
    rintro en w0 ⟨rfl, hw0⟩
    have hw0' := hw0.symm
    subst hw0'
    go_wp2_with fail
    refine (order_any HM.out.hier).mono ?_
    rintro en w1 ⟨Ao, co, rfl, hco, hfo, hNo, hb1⟩
    rw [Hol.out] at hco ⊢
    have HB1 := hid hb1
    clear hb1 hNo hfo
    go_wp2
    go_ret2
    exact ⟨rfl, HB1.out⟩
  · have d1 : decide (s < 0) = false := decide_eq_false h0
    have d2 : decide ((M.h.n : Int) ≤ s) = true := decide_eq_true (by omega)
    clear hs
    go_enter Try.func43, Try.ntmps43
    go_wp2_with fail
    refine (mhier_any HM.out).mono ?_
    rintro en w0 ⟨rfl, hw0⟩
    have hw0' := hw0.symm
    subst hw0'
    go_wp2_with fail
    refine (order_any HM.out.hier).mono ?_
    rintro en w1 ⟨Ao, co, rfl, hco, hfo, hNo, hb1⟩
    rw [Hol.out] at hco ⊢
    have HB1 := hid hb1
    clear hb1 hNo hfo
    go_wp2
    go_ret2
    exact ⟨rfl, HB1.out⟩
set_option maxHeartbeats 1000000 in
theorem all_from_nil (s : Int) (w : World) : Calls Try.prog 43 #[.pointer none, .int .i64 s, .bool false] w (RetVal w (.tuple #[.slice none 0 0, .int .i64 1])) := by
  go_enter Try.func43, Try.ntmps43
  go_wp2
  go_ret2
  exact ⟨rfl, rfl⟩
set_option maxHeartbeats 1000000 in
theorem all_to_bad {w : World} {m h : Nat} {M : MD} (H : MetAt w m h M) (hol : M.h.order.length = M.h.n) (s : Int) (hs : s < 0 ∨ (M.h.n : Int) ≤ s) :
    Calls Try.prog 43 #[.pointer (some ⟨m, 0, none⟩), .int .i64 s, .bool true] w (RetErr w) := by
  have HM := hid H
  have Hol := hid hol
  clear H hol
  by_cases h0 : s < 0
  · have d1 : decide (s < 0) = true := decide_eq_true h0
    clear hs
    go_enter Try.func43, Try.ntmps43
    go_wp2_with fail
    refine (mhier_any HM.out).mono ?_
    rintro en w0 ⟨rfl, hw0⟩
    have hw0' := hw0.symm
    subst hw0'
    go_wp2_with fail
    refine (order_any HM.out.hier).mono ?_
    rintro en w1 ⟨Ao, co, rfl, hco, hfo, hNo, hb1⟩
    rw [Hol.out] at hco ⊢
    have HB1 := hid hb1
    clear hb1 hNo hfo
    go_wp2
    go_ret2
    exact ⟨rfl, HB1.out⟩
  · have d1 : decide (s < 0) = false := decide_eq_false h0
    have d2 : decide ((M.h.n : Int) ≤ s) = true := decide_eq_true (by omega)
    clear hs
    go_enter Try.func43, Try.ntmps43
    go_wp2_with fail
    refine (mhier_any HM.out).mono ?_
    rintro en w0 ⟨rfl, hw0⟩
    have hw0' := hw0.symm
    subst hw0'
    go_wp2_with fail
    refine (order_any HM.out.hier).mono ?_
    rintro en w1 ⟨Ao, co, rfl, hco, hfo, hNo, hb1⟩
    rw [Hol.out] at hco ⊢
    have HB1 := hid hb1
    clear hb1 hNo hfo
    go_wp2
    go_ret2
    exact ⟨rfl, HB1.out⟩
set_option maxHeartbeats 1000000 in
theorem all_to_nil (s : Int) (w : World) : Calls Try.prog 43 #[.pointer none, .int .i64 s, .bool true] w (RetVal w (.tuple #[.slice none 0 0, .int .i64 1])) := by
  go_enter Try.func43, Try.ntmps43
  go_wp2
  go_ret2
  exact ⟨rfl, rfl⟩
set_option maxHeartbeats 1000000 in
theorem sweep_from_of (v0 v1 : Value) (w : World) (R : Ending → World → Prop) (hR : Calls Try.prog 43 #[v0, v1, .bool false] w fun en w' => ∃ u0 u1, en = .returned (.tuple #[u0, u1]) ∧ R (.returned (.tuple #[u0, u1])) w') :
    Calls Try.prog 15 #[v0, v1] w R := by
  have HR := hid hR
  clear hR
  go_enter Try.func15, Try.ntmps15
  go_wp2_with fail
  refine HR.out.mono ?_
  rintro en w1 ⟨u0, u1, rfl, h⟩
  have H := hid h
  clear h
  go_wp2
  exact H.out
theorem sfrom_good {n : Nat} {E : List (Nat × Nat)} {ws : List Int} {order ranks : List Nat} {edges : List (Nat × Nat)} {w : World} {m h : Nat} {M : MD} (H : MetAt w m h M) (G : Good n E ws order ranks edges M) (s : Nat) (hs : s < n) (hn : n ≤ 29) :
    Calls Try.prog 15 #[.pointer (some ⟨m, 0, none⟩), .int .i64 (s : Int)] w (RetDist w (IsDist n (E) ws s)) := by
  refine sweep_from_of _ _ w _ ((all_from H G s hs hn).mono ?_)
  rintro en w' ⟨d, A, c, rfl, h⟩
  exact ⟨_, _, rfl, d, A, c, rfl, h⟩
theorem sfrom_bad {n : Nat} {E : List (Nat × Nat)} {ws : List Int} {order ranks : List Nat} {edges : List (Nat × Nat)} {w : World} {m h : Nat} {M : MD} (H : MetAt w m h M) (G : Good n E ws order ranks edges M) (s : Int) (hs : s < 0 ∨ (n : Int) ≤ s) :
    Calls Try.prog 15 #[.pointer (some ⟨m, 0, none⟩), .int .i64 s] w (RetErr w) := by
  have hDn : M.h.n = n := by rw [G.h_eq]; rfl
  refine sweep_from_of _ _ w _ ((all_from_bad H (by rw [hDn, G.h_eq]; exact G.hg.perm.olen) s (by rw [hDn]; exact hs)).mono ?_)
  rintro en w' ⟨rfl, h⟩
  exact ⟨_, _, rfl, rfl, h⟩
theorem sfrom_nil (s : Int) (w : World) : Calls Try.prog 15 #[.pointer none, .int .i64 s] w (RetVal w (.tuple #[.slice none 0 0, .int .i64 1])) := by
  refine sweep_from_of _ _ w _ ((all_from_nil s w).mono ?_)
  rintro en w' ⟨rfl, h⟩
  exact ⟨_, _, rfl, rfl, h⟩
set_option maxHeartbeats 1000000 in
theorem sweep_to_of (v0 v1 : Value) (w : World) (R : Ending → World → Prop) (hR : Calls Try.prog 43 #[v0, v1, .bool true] w fun en w' => ∃ u0 u1, en = .returned (.tuple #[u0, u1]) ∧ R (.returned (.tuple #[u0, u1])) w') :
    Calls Try.prog 17 #[v0, v1] w R := by
  have HR := hid hR
  clear hR
  go_enter Try.func17, Try.ntmps17
  go_wp2_with fail
  refine HR.out.mono ?_
  rintro en w1 ⟨u0, u1, rfl, h⟩
  have H := hid h
  clear h
  go_wp2
  exact H.out
theorem sto_good {n : Nat} {E : List (Nat × Nat)} {ws : List Int} {order ranks : List Nat} {edges : List (Nat × Nat)} {w : World} {m h : Nat} {M : MD} (H : MetAt w m h M) (G : Good n E ws order ranks edges M) (s : Nat) (hs : s < n) (hn : n ≤ 29) :
    Calls Try.prog 17 #[.pointer (some ⟨m, 0, none⟩), .int .i64 (s : Int)] w (RetDist w (IsDist n (swapE E) ws s)) := by
  refine sweep_to_of _ _ w _ ((all_to H G s hs hn).mono ?_)
  rintro en w' ⟨d, A, c, rfl, h⟩
  exact ⟨_, _, rfl, d, A, c, rfl, h⟩
theorem sto_bad {n : Nat} {E : List (Nat × Nat)} {ws : List Int} {order ranks : List Nat} {edges : List (Nat × Nat)} {w : World} {m h : Nat} {M : MD} (H : MetAt w m h M) (G : Good n E ws order ranks edges M) (s : Int) (hs : s < 0 ∨ (n : Int) ≤ s) :
    Calls Try.prog 17 #[.pointer (some ⟨m, 0, none⟩), .int .i64 s] w (RetErr w) := by
  have hDn : M.h.n = n := by rw [G.h_eq]; rfl
  refine sweep_to_of _ _ w _ ((all_to_bad H (by rw [hDn, G.h_eq]; exact G.hg.perm.olen) s (by rw [hDn]; exact hs)).mono ?_)
  rintro en w' ⟨rfl, h⟩
  exact ⟨_, _, rfl, rfl, h⟩
theorem sto_nil (s : Int) (w : World) : Calls Try.prog 17 #[.pointer none, .int .i64 s] w (RetVal w (.tuple #[.slice none 0 0, .int .i64 1])) := by
  refine sweep_to_of _ _ w _ ((all_to_nil s w).mono ?_)
  rintro en w' ⟨rfl, h⟩
  exact ⟨_, _, rfl, rfl, h⟩

end Go.Proofs.Ytpfjannhggcmiaa
