/- Contract of law41.Setup on correct graphs and weights: the metric of an order, or none. -/
import Derived.Test.YtpfjannhggcmiaaWi3
namespace Go.Proofs.Ytpfjannhggcmiaa
open Go.RowKit Go.Maps

/-- A metric over correct data. -/
def MetOf (w : World) (m : Nat) (n : Nat) (E : List (Nat × Nat)) (ws : List Int) : Prop := ∃ h M order ranks edges, MetAt w m h M ∧ Good n E ws order ranks edges M
theorem MetOf.below {w w' : World} {m n : Nat} {E : List (Nat × Nat)} {ws : List Int} (H : MetOf w m n E ws) (hb : Below w.heap.size w w') : MetOf w' m n E ws := by
  obtain ⟨h, M, order, ranks, edges, h1, h2⟩ := H
  exact ⟨h, M, order, ranks, edges, h1.below hb, h2⟩
def RetSetup (w : World) (n : Nat) (E : List (Nat × Nat)) (ws : List Int) (en : Ending) (w' : World) : Prop :=
  ∃ m, en = .returned (.tuple #[.pointer (some ⟨m, 0, none⟩), .bool true]) ∧ MetOf w' m n E ws ∧ w.heap.size ≤ m ∧ Below w.heap.size w w'
def RetNoSet (w : World) (en : Ending) (w' : World) : Prop := en = .returned (.tuple #[.pointer none, .bool false]) ∧ Below w.heap.size w w'

set_option maxRecDepth 100000 in
set_option maxHeartbeats 4000000 in
theorem setup_good (n : Nat) (E : List (Nat × Nat)) (ws : List Int) (A : Option Addr) (c : Nat) (B : Option Addr) (order : List Nat) (d : Nat) (C : Option Addr) (f : Nat) (w : World) (hr : Arcs w A E) (hl : Nats w B order) (hw : Ints w C ws) (hG : GraphOk n E ws) (hol : order.length = n) (hlt : ∀ x ∈ order, x < n) (hd : order.Nodup) :
    Calls Try.prog 14 #[.agg #[.int .i64 (n : Int), .slice A E.length c], .slice B n d, .slice C ws.length f] w (RetSetup w n E ws) := by
  have Hr := hid hr
  have Hl := hid hl
  have Hw := hid hw
  have HGr := hid hG
  have Hol := hid hol
  have Hlt := hid hlt
  have Hd := hid hd
  have hn : n ≤ 1024 := by have := hG.n_le; omega
  have hE := hG.e_le
  have HE := hid hG.ends
  clear hr hl hw hG hol hlt hd
  go_enter Try.func14, Try.ntmps14
  go_wp2_with fail
  refine (new_good n E A c B order d _ (by exact Hr.out.below (below_alloc' (Below.refl _ _) _)) (by exact Hl.out.below (below_alloc' (Below.refl _ _) _)) hn hE HE.out Hol.out Hlt.out Hd.out).mono ?_
  rintro en w1 ⟨h, ranks, rows, rfl, hp, hel, hH, hh, hb⟩
  have hb1 : Below w.heap.size w w1 := below_then' (below_alloc' (Below.refl _ _) _) hb
  have HB1 := hid hb1
  have HH := hid hH
  have Hg := hid (HG.of hp hel HE.out)
  clear hp hel hH hh hb hb1
  go_wp2_with fail
  refine (cnew_good HH.out Hg.out C f (Hw.out.below HB1.out) HGr.out).mono ?_
  rintro en w2 ⟨m, M, rfl, hM, hGd, hm, hb⟩
  have HM := hid hM
  have HGd := hid hGd
  have Hm := hid (Nat.le_trans HB1.out.size hm)
  have HB2 := hid (HB1.out.trans (hb.mono HB1.out.size))
  clear hM hGd hm hb
  go_wp2_with fail
  refine (mhier_any HM.out).mono ?_
  rintro en w3 ⟨rfl, hw3⟩
  subst hw3
  go_wp2
  go_ret2
  exact ⟨m, rfl, ⟨h, M, order, ranks, _, HM.out, HGd.out⟩, Hm.out, HB2.out⟩
set_option maxRecDepth 100000 in
set_option maxHeartbeats 4000000 in
theorem setup_bad (n : Nat) (E : List (Nat × Nat)) (ws : List Int) (A : Option Addr) (c : Nat) (B : Option Addr) (l : List Int) (d : Nat) (C : Option Addr) (f : Nat) (w : World) (hr : Arcs w A E) (hl : Ints w B l) (hG : GraphOk n E ws) (hll : l.length ≤ 1099511627776) (hbad : ¬ PermI n l) :
    Calls Try.prog 14 #[.agg #[.int .i64 (n : Int), .slice A E.length c], .slice B l.length d, .slice C ws.length f] w (RetNoSet w) := by
  have Hr := hid hr
  have Hl := hid hl
  have Hbad := hid hbad
  have hn : n ≤ 1024 := by have := hG.n_le; omega
  have hE := hG.e_le
  have HE := hid hG.ends
  clear hr hl hG hbad
  go_enter Try.func14, Try.ntmps14
  go_wp2_with fail
  refine (new_bad n E A c B l d _ (by exact Hr.out.below (below_alloc' (Below.refl _ _) _)) (by exact Hl.out.below (below_alloc' (Below.refl _ _) _)) hn hE HE.out hll Hbad.out).mono ?_
  rintro en w1 ⟨r, rfl, hr0, hb⟩
  have HB1 := hid (below_then' (below_alloc' (Below.refl w.heap.size w) _) hb)
  have e1 : (r != 0) = true := by simp [hr0]
  clear hb hr0
  go_wp2
  go_ret2
  exact ⟨rfl, HB1.out⟩

end Go.Proofs.Ytpfjannhggcmiaa
