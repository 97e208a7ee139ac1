/- Contracts of the functions that read a hierarchy or a metric. -/
import Derived.Test.YtpfjannhggcmiaaHier
namespace Go.Proofs.Ytpfjannhggcmiaa
open Go.RowKit Go.Maps

/-! ### a hierarchy in memory -/
def HierAt (w : World) (h : Nat) (D : HD) : Prop :=
  D.ok ∧ ∃ Aa ca Ao co Ar cr Ae ce nb nn Au cu Ad cd,
    w.heap[h]? = some (.cells #[.int .i64 (D.n : Int), .slice Aa D.arcs.length ca, .slice Ao D.n co, .slice Ar D.n cr, .slice Ae D.edges.length ce, .map (some nb), .slice Au D.n cu, .slice Ad D.n cd] 115 (0, 0)) ∧
    (D.arcs.length ≤ ca ∧ D.n ≤ co ∧ D.n ≤ cr ∧ D.edges.length ≤ ce ∧ D.n ≤ cu ∧ D.n ≤ cd) ∧
    Arcs w Aa D.arcs ∧ Nats w Ao D.order ∧ Nats w Ar D.ranks ∧ Arcs w Ae D.edges ∧ PMap w nb nn (fun u v => (D.num u v).map natv) ∧ Lists w Au D.up ∧ Lists w Ad D.down
theorem HierAt.ok {w : World} {h : Nat} {D : HD} (H : HierAt w h D) : D.ok := H.1
theorem HierAt.lt {w : World} {h : Nat} {D : HD} (H : HierAt w h D) : h < w.heap.size := by
  obtain ⟨_, Aa, ca, Ao, co, Ar, cr, Ae, ce, nb, nn, Au, cu, Ad, cd, hh, _⟩ := H
  exact blk_lt' hh
theorem HierAt.below {w W : World} {h : Nat} {D : HD} (H : HierAt w h D) (hb : Below w.heap.size w W) : HierAt W h D := by
  obtain ⟨hok, Aa, ca, Ao, co, Ar, cr, Ae, ce, nb, nn, Au, cu, Ad, cd, hh, hc, h1, h2, h3, h4, h5, h6, h7⟩ := H
  exact ⟨hok, Aa, ca, Ao, co, Ar, cr, Ae, ce, nb, nn, Au, cu, Ad, cd, blk_below hh hb, hc, h1.below hb, h2.below hb, h3.below hb, h4.below hb, h5.below hb, h6.below hb, h7.below hb⟩
theorem HierAt.c0 {w : World} {h : Nat} {D : HD} (H : HierAt w h D) : w.cell? ⟨h, 0, none⟩ = some (.int .i64 (D.n : Int)) := by
  obtain ⟨_, Aa, ca, Ao, co, Ar, cr, Ae, ce, nb, nn, Au, cu, Ad, cd, hh, _⟩ := H
  exact blk_cell' hh 0
theorem HierAt.arcs {w : World} {h : Nat} {D : HD} (H : HierAt w h D) : ∃ A c, w.cell? ⟨h, 1, none⟩ = some (.slice A D.arcs.length c) ∧ D.arcs.length ≤ c ∧ Arcs w A D.arcs := by
  obtain ⟨_, Aa, ca, Ao, co, Ar, cr, Ae, ce, nb, nn, Au, cu, Ad, cd, hh, hc, h1, h2, h3, h4, h5, h6, h7⟩ := H
  exact ⟨_, _, blk_cell' hh 1, hc.1, h1⟩
theorem HierAt.order {w : World} {h : Nat} {D : HD} (H : HierAt w h D) : ∃ A c, w.cell? ⟨h, 2, none⟩ = some (.slice A D.n c) ∧ D.n ≤ c ∧ Nats w A D.order := by
  obtain ⟨_, Aa, ca, Ao, co, Ar, cr, Ae, ce, nb, nn, Au, cu, Ad, cd, hh, hc, h1, h2, h3, h4, h5, h6, h7⟩ := H
  exact ⟨_, _, blk_cell' hh 2, hc.2.1, h2⟩
theorem HierAt.ranks {w : World} {h : Nat} {D : HD} (H : HierAt w h D) : ∃ A c, w.cell? ⟨h, 3, none⟩ = some (.slice A D.n c) ∧ D.n ≤ c ∧ Nats w A D.ranks := by
  obtain ⟨_, Aa, ca, Ao, co, Ar, cr, Ae, ce, nb, nn, Au, cu, Ad, cd, hh, hc, h1, h2, h3, h4, h5, h6, h7⟩ := H
  exact ⟨_, _, blk_cell' hh 3, hc.2.2.1, h3⟩
theorem HierAt.edges {w : World} {h : Nat} {D : HD} (H : HierAt w h D) : ∃ A c, w.cell? ⟨h, 4, none⟩ = some (.slice A D.edges.length c) ∧ D.edges.length ≤ c ∧ Arcs w A D.edges := by
  obtain ⟨_, Aa, ca, Ao, co, Ar, cr, Ae, ce, nb, nn, Au, cu, Ad, cd, hh, hc, h1, h2, h3, h4, h5, h6, h7⟩ := H
  exact ⟨_, _, blk_cell' hh 4, hc.2.2.2.1, h4⟩
theorem HierAt.num {w : World} {h : Nat} {D : HD} (H : HierAt w h D) : ∃ nb nn, w.cell? ⟨h, 5, none⟩ = some (.map (some nb)) ∧ PMap w nb nn (fun u v => (D.num u v).map natv) := by
  obtain ⟨_, Aa, ca, Ao, co, Ar, cr, Ae, ce, nb, nn, Au, cu, Ad, cd, hh, hc, h1, h2, h3, h4, h5, h6, h7⟩ := H
  exact ⟨_, _, blk_cell' hh 5, h5⟩
theorem HierAt.up {w : World} {h : Nat} {D : HD} (H : HierAt w h D) : ∃ A c, w.cell? ⟨h, 6, none⟩ = some (.slice A D.n c) ∧ D.n ≤ c ∧ Lists w A D.up := by
  obtain ⟨_, Aa, ca, Ao, co, Ar, cr, Ae, ce, nb, nn, Au, cu, Ad, cd, hh, hc, h1, h2, h3, h4, h5, h6, h7⟩ := H
  exact ⟨_, _, blk_cell' hh 6, hc.2.2.2.2.1, h6⟩
theorem HierAt.down {w : World} {h : Nat} {D : HD} (H : HierAt w h D) : ∃ A c, w.cell? ⟨h, 7, none⟩ = some (.slice A D.n c) ∧ D.n ≤ c ∧ Lists w A D.down := by
  obtain ⟨_, Aa, ca, Ao, co, Ar, cr, Ae, ce, nb, nn, Au, cu, Ad, cd, hh, hc, h1, h2, h3, h4, h5, h6, h7⟩ := H
  exact ⟨_, _, blk_cell' hh 7, hc.2.2.2.2.2, h7⟩

/-! ### has, Rank -/
set_option maxHeartbeats 400000 in
theorem has_yes {h : Nat} {D : HD} (v : Nat) {w : World} (H : HierAt w h D) (hv : v < D.n) :
    Calls Try.prog 97 #[.pointer (some ⟨h, 0, none⟩), .int .i64 v] w fun e w' => e = .returned (.bool true) ∧ w = w' := by
  have lh := H.lt
  have c0 := H.c0
  clear H
  go_enter Try.func97, Try.ntmps97
  go_wp2
  go_ret
  exact ⟨rfl, rfl⟩
set_option maxHeartbeats 400000 in
theorem has_no {h : Nat} {D : HD} (v : Int) {w : World} (H : HierAt w h D) (hv : v < 0 ∨ (D.n : Int) ≤ v) :
    Calls Try.prog 97 #[.pointer (some ⟨h, 0, none⟩), .int .i64 v] w fun e w' => e = .returned (.bool false) ∧ w = w' := by
  have lh := H.lt
  have c0 := H.c0
  clear H
  by_cases h0 : v < 0
  · clear hv
    go_enter Try.func97, Try.ntmps97
    go_wp2
    go_ret
    exact ⟨rfl, rfl⟩
  · have h1 : (D.n : Int) ≤ v := by omega
    clear hv
    go_enter Try.func97, Try.ntmps97
    go_wp2
    go_ret
    refine ⟨?_, rfl⟩
    simp
    omega
set_option maxHeartbeats 400000 in
theorem rank_yes {h : Nat} {D : HD} (v : Nat) {w : World} (H : HierAt w h D) (hv : v < D.n) :
    Calls Try.prog 86 #[.pointer (some ⟨h, 0, none⟩), .int .i64 v] w fun e w' => e = .returned (.int .i64 ((D.ranks.getD v 0 : Nat) : Int)) ∧ w = w' := by
  have lh := H.lt
  obtain ⟨A, c, c3, hc, hr⟩ := H.ranks
  obtain ⟨b, o, rfl, hb, cv⟩ := hr.at_ (k := v) (by rw [H.ok.ranks_len]; exact hv)
  have HH := hid H
  clear H hr
  go_enter Try.func86, Try.ntmps86
  go_wp2_with (first | (go_at_call 97; refine (has_yes _ HH.out hv).mono ?_; rintro e w' ⟨rfl, rfl⟩))
  go_ret
  exact ⟨rfl, rfl⟩
set_option maxHeartbeats 400000 in
theorem rank_no {h : Nat} {D : HD} (v : Int) {w : World} (H : HierAt w h D) (hv : v < 0 ∨ (D.n : Int) ≤ v) :
    Calls Try.prog 86 #[.pointer (some ⟨h, 0, none⟩), .int .i64 v] w fun e w' => e = .returned (.int .i64 (-1)) ∧ w = w' := by
  have HH := hid H
  have Hv := hid hv
  clear H hv
  go_enter Try.func86, Try.ntmps86
  go_wp2_with (first | (go_at_call 97; refine (has_no _ HH.out Hv.out).mono ?_; rintro e w' ⟨rfl, rfl⟩))
  go_ret
  exact ⟨rfl, rfl⟩

/-! ### Find -/
def HD.find (D : HD) (u v : Nat) : Option Nat := if D.ranks.getD v 0 < D.ranks.getD u 0 then D.num v u else D.num u v
def RetFind (D : HD) (u v : Nat) (w : World) (e : Ending) (w' : World) : Prop :=
  e = .returned (.tuple #[.int .i64 (((D.find u v).getD 0 : Nat) : Int), .bool (D.find u v).isSome]) ∧ Below w.heap.size w w'
theorem zero_int (w : World) : (zeroValue 3).run Try.prog w = .ok (.int .i64 0) w := by kernel_rfl
theorem getD_natv (x : Option Nat) : (x.map natv).getD (.int .i64 0) = .int .i64 ((x.getD 0 : Nat) : Int) := by cases x <;> rfl
theorem isSome_natv (x : Option Nat) : (x.map natv).isSome = x.isSome := by cases x <;> rfl
set_option maxHeartbeats 1000000 in
theorem find_any {h : Nat} {D : HD} (u v : Nat) {w : World} (H : HierAt w h D) (hu : u < D.n) (hv : v < D.n) :
    Calls Try.prog 75 #[.pointer (some ⟨h, 0, none⟩), .int .i64 u, .int .i64 v] w (RetFind D u v w) := by
  have lh := H.lt
  have hn := H.ok.n_le
  obtain ⟨A, c, c3, hc, hr⟩ := H.ranks
  obtain ⟨b, o, hA, hb, cu⟩ := hr.at_ (k := u) (by rw [H.ok.ranks_len]; exact hu)
  obtain ⟨b', o', rfl, _, cv⟩ := hr.at_ (k := v) (by rw [H.ok.ranks_len]; exact hv)
  cases hA
  obtain ⟨nb, nn, c5, hm⟩ := H.num
  have hl : ∀ (W : World) (x y : Nat), Below w.heap.size w W → x < D.n → y < D.n →
      (Instr.lookup 113 (.map (some nb)) (.agg #[.int .i64 (x : Int), .int .i64 (y : Int)]) true).run Try.prog W = .ok (.tuple #[.int .i64 (((D.num x y).getD 0 : Nat) : Int), .bool (D.num x y).isSome]) W := by
    intro W x y hW hx hy
    have := (hm.below hW).look Try.underlying113 (zero_int W) true x y (by omega) (by omega)
    simpa [getD_natv, isSome_natv] using this
  have hl1 : ∀ (o : Obj) (n m x y : Nat) (p q : Value), x < D.n → y < D.n → (Instr.lookup 113 (.map (some nb)) (.agg #[.int .i64 (x : Int), .int .i64 (y : Int)]) true).run Try.prog (((((w.alloc o).drewN n).setCell ⟨w.heap.size, 0, none⟩ p).setCell ⟨w.heap.size, 1, none⟩ q).drewN m) = .ok (.tuple #[.int .i64 (((D.num x y).getD 0 : Nat) : Int), .bool (D.num x y).isSome]) (((((w.alloc o).drewN n).setCell ⟨w.heap.size, 0, none⟩ p).setCell ⟨w.heap.size, 1, none⟩ q).drewN m) :=
    fun o n m x y p q hx hy => hl _ x y (below_drewN' (((below_drewN' (below_alloc' (Below.refl _ _) _) _).setCell (Nat.le_refl _) _).setCell (Nat.le_refl _) _) _) hx hy
  have hl2 : ∀ (o : Obj) (n x y : Nat), x < D.n → y < D.n → (Instr.lookup 113 (.map (some nb)) (.agg #[.int .i64 (x : Int), .int .i64 (y : Int)]) true).run Try.prog ((w.alloc o).drewN n) = .ok (.tuple #[.int .i64 (((D.num x y).getD 0 : Nat) : Int), .bool (D.num x y).isSome]) ((w.alloc o).drewN n) :=
    fun o n x y hx hy => hl _ x y (below_drewN' (below_alloc' (Below.refl _ _) _) _) hx hy
  have HH := hid H
  clear H hr hm hl
  by_cases hlt : D.ranks.getD v 0 < D.ranks.getD u 0
  · have hf : Hid (D.find u v = D.num v u) := by unfold HD.find; rw [if_pos hlt]; exact rfl
    go_enter Try.func75, Try.ntmps75
    go_wp2_with (first | (go_at_call_of 97 (Value.int IntKind.i64 (u : Int)); refine (has_yes _ HH.out hu).mono ?_; rintro e w' ⟨rfl, rfl⟩) | (go_at_call_of 97 (Value.int IntKind.i64 (v : Int)); refine (has_yes _ HH.out hv).mono ?_; rintro e w' ⟨rfl, rfl⟩))
    go_quiet (fail)
    go_wp2
    go_quiet (fail)
    go_wp2
    go_ret2
    exact ⟨by simp [hf.out], below_drewN' (((below_drewN' (below_alloc' (Below.refl _ _) _) _).setCell (Nat.le_refl _) _).setCell (Nat.le_refl _) _) _⟩
  · have hf : Hid (D.find u v = D.num u v) := by unfold HD.find; rw [if_neg hlt]; exact rfl
    go_enter Try.func75, Try.ntmps75
    go_wp2_with (first | (go_at_call_of 97 (Value.int IntKind.i64 (u : Int)); refine (has_yes _ HH.out hu).mono ?_; rintro e w' ⟨rfl, rfl⟩) | (go_at_call_of 97 (Value.int IntKind.i64 (v : Int)); refine (has_yes _ HH.out hv).mono ?_; rintro e w' ⟨rfl, rfl⟩))
    go_quiet (fail)
    go_wp2
    go_quiet (fail)
    go_wp2
    go_ret2
    exact ⟨by simp [hf.out], below_drewN' (below_drewN' (below_alloc' (Below.refl _ _) _) _) _⟩

end Go.Proofs.Ytpfjannhggcmiaa
