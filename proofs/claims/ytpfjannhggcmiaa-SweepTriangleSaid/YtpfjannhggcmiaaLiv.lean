/- Contract of the chapter's example (mapmakerlaw43.lives): it holds. -/
import Derived.Test.YtpfjannhggcmiaaSet
namespace Go.Proofs.Ytpfjannhggcmiaa
open Go.RowKit Go.Maps

def E4 : List (Nat × Nat) := [(0, 1), (1, 2), (2, 3), (3, 0)]
def W4 : List Int := [1, 1, 1, 1]
theorem lt4 {i : Nat} (h : i < 4) : i = 0 ∨ i = 1 ∨ i = 2 ∨ i = 3 := by omega
theorem graph4 : GraphOk 4 E4 W4 where
  n_le := by omega
  e_le := by decide
  ends := fun i hi => by rcases lt4 (show i < 4 from hi) with rfl | rfl | rfl | rfl <;> decide
  w_len := rfl
  w_ok := fun i hi => by rcases lt4 (show i < 4 from hi) with rfl | rfl | rfl | rfl <;> decide
theorem dist4 : IsDist 4 E4 W4 0 [0, 1, 2, 3] := by
  have h1 : Walk E4 W4 0 1 1 := Walk.one (i := 0) (by decide) rfl (by decide)
  have h2 : Walk E4 W4 0 2 2 := h1.trans (Walk.one (i := 1) (v := 2) (by decide) rfl (by decide))
  have h3 : Walk E4 W4 0 3 3 := h2.trans (Walk.one (i := 2) (v := 3) (by decide) rfl (by decide))
  refine isDist_of graph4.ends (by omega) ⟨rfl, fun v hv => ?_, rfl, fun v hv _ => ?_⟩ (fun i hi => ?_)
  · rcases lt4 hv with rfl | rfl | rfl | rfl <;> decide
  · rcases lt4 hv with rfl | rfl | rfl | rfl
    · exact .nil
    · exact h1
    · exact h2
    · exact h3
  · rcases lt4 (show i < 4 from hi) with rfl | rfl | rfl | rfl <;> decide
theorem distB4 : IsDist 4 (swapE E4) W4 0 [0, 3, 2, 1] := by
  have h1 : Walk (swapE E4) W4 0 3 1 := Walk.one (i := 3) (by decide) rfl (by decide)
  have h2 : Walk (swapE E4) W4 0 2 2 := h1.trans (Walk.one (i := 2) (v := 2) (by decide) rfl (by decide))
  have h3 : Walk (swapE E4) W4 0 1 3 := h2.trans (Walk.one (i := 1) (v := 1) (by decide) rfl (by decide))
  refine isDist_of graph4.swap.ends (by omega) ⟨rfl, fun v hv => ?_, rfl, fun v hv _ => ?_⟩ (fun i hi => ?_)
  · rcases lt4 hv with rfl | rfl | rfl | rfl <;> decide
  · rcases lt4 hv with rfl | rfl | rfl | rfl
    · exact .nil
    · exact h3
    · exact h2
    · exact h1
  · rcases lt4 (show i < 4 from hi) with rfl | rfl | rfl | rfl <;> decide

/-! ### the calls of the example -/
theorem ints_blk4 {w : World} {g : Nat} {t : TypeId} {a b c d : Int} (h : w.heap[g]? = some (.cells #[.int .i64 a, .int .i64 b, .int .i64 c, .int .i64 d] t (0, 0))) : Ints w (some ⟨g, 0, none⟩) [a, b, c, d] := blk_ints (xs := [a, b, c, d]) h
def RetD4 (w : World) (ds : List Int) (en : Ending) (w' : World) : Prop := ∃ A c, en = .returned (.tuple #[.slice A 4 c, .int .i64 0]) ∧ Ints w' A ds ∧ Below w.heap.size w w'
theorem from4 {w : World} {m : Nat} (H : MetOf w m 4 E4 W4) : Calls Try.prog 15 #[.pointer (some ⟨m, 0, none⟩), .int .i64 0] w (RetD4 w [0, 1, 2, 3]) := by
  obtain ⟨h, M, order, ranks, edges, hM, hG⟩ := H
  refine (show Calls Try.prog 15 #[.pointer (some ⟨m, 0, none⟩), .int .i64 0] w _ from sfrom_good hM hG 0 (by omega) (by omega)).mono ?_
  rintro en w' ⟨d, A, c, rfl, hd, hc, hf, hI, hb⟩
  have e := isDist_unique hd dist4
  subst e
  exact ⟨A, c, rfl, hI, hb⟩
theorem to4 {w : World} {m : Nat} (H : MetOf w m 4 E4 W4) : Calls Try.prog 17 #[.pointer (some ⟨m, 0, none⟩), .int .i64 0] w (RetD4 w [0, 3, 2, 1]) := by
  obtain ⟨h, M, order, ranks, edges, hM, hG⟩ := H
  refine (show Calls Try.prog 17 #[.pointer (some ⟨m, 0, none⟩), .int .i64 0] w _ from sto_good hM hG 0 (by omega) (by omega)).mono ?_
  rintro en w' ⟨d, A, c, rfl, hd, hc, hf, hI, hb⟩
  have e := isDist_unique hd distB4
  subst e
  exact ⟨A, c, rfl, hI, hb⟩
def RetW4 (w : World) (en : Ending) (w' : World) : Prop := ∃ A c, en = .returned (.tuple #[.slice A 2 c, .int .i64 0]) ∧ Pairs w' A [(0, 0), (1, 1)] ∧ Below w.heap.size w w'
theorem within4 {w : World} {m : Nat} (H : MetOf w m 4 E4 W4) : Calls Try.prog 20 #[.pointer (some ⟨m, 0, none⟩), .int .i64 0, .int .i64 1] w (RetW4 w) := by
  obtain ⟨h, M, order, ranks, edges, hM, hG⟩ := H
  refine (show Calls Try.prog 20 #[.pointer (some ⟨m, 0, none⟩), .int .i64 0, .int .i64 1] w _ from within_good hM hG 0 (by omega) (by omega) 1).mono ?_
  rintro en w' ⟨d, L, A, c, hd, hL, rfl, hc, hP, hb⟩
  have e := isDist_unique hd dist4
  subst e
  have hL2 : L = [(0, 0), (1, 1)] := by rw [hL]; decide
  subst hL2
  exact ⟨A, c, rfl, hP, hb⟩
theorem tobad4 {w : World} {m : Nat} (H : MetOf w m 4 E4 W4) : Calls Try.prog 17 #[.pointer (some ⟨m, 0, none⟩), .int .i64 4] w (RetErr w) := by
  obtain ⟨h, M, order, ranks, edges, hM, hG⟩ := H
  exact sto_bad hM hG 4 (.inr (by omega))
def RetYes (w : World) (en : Ending) (w' : World) : Prop := en = .returned (.bool true) ∧ ∃ n, w' = w.drewN n
theorem equal4 {w : World} {A B : Option Addr} {a b c d : Int} {k l : Nat} (hx : Ints w A [a, b, c, d]) (hy : Ints w B [a, b, c, d]) : Calls Try.prog 19 #[.slice A 4 k, .slice B 4 l] w (RetYes w) := by
  refine (equal_any A B [a, b, c, d] [a, b, c, d] k l w hx hy (by simp)).mono ?_
  rintro en w' ⟨r, rfl, hr, hw⟩
  obtain rfl : r = true := hr.2 rfl
  exact ⟨rfl, hw⟩
theorem same4 {w : World} {A B : Option Addr} {k l : Nat} (hx : Pairs w A [(0, 0), (1, 1)]) (hy : Pairs w B [(0, 0), (1, 1)]) : Calls Try.prog 22 #[.slice A 2 k, .slice B 2 l] w (RetYes w) := by
  refine (same_any A B [(0, 0), (1, 1)] [(0, 0), (1, 1)] k l w hx hy (by simp)).mono ?_
  rintro en w' ⟨r, rfl, hr, hw⟩
  obtain rfl : r = true := hr.2 rfl
  exact ⟨rfl, hw⟩
theorem setup4 {w : World} {b1 b2 b3 : Nat} {t1 t2 t3 : TypeId} (h1 : w.heap[b1]? = some (.cells #[.int .i64 0, .int .i64 1, .int .i64 1, .int .i64 2, .int .i64 2, .int .i64 3, .int .i64 3, .int .i64 0] t1 (0, 0))) (h2 : w.heap[b2]? = some (.cells #[.int .i64 0, .int .i64 1, .int .i64 2, .int .i64 3] t2 (0, 0)))
    (h3 : w.heap[b3]? = some (.cells #[.int .i64 1, .int .i64 1, .int .i64 1, .int .i64 1] t3 (0, 0))) :
    Calls Try.prog 14 #[.agg #[.int .i64 4, .slice (some ⟨b1, 0, none⟩) 4 4], .slice (some ⟨b2, 0, none⟩) 4 4, .slice (some ⟨b3, 0, none⟩) 4 4] w (RetSetup w 4 E4 W4) := by
  have hA : Arcs w (some ⟨b1, 0, none⟩) E4 := .inr ⟨b1, 0, rfl, blk_lt' h1, fun i hi => by
    rcases lt4 (show i < 4 from hi) with rfl | rfl | rfl | rfl <;> exact ⟨blk_cell' h1 _, blk_cell' h1 _⟩⟩
  have hN : Nats w (some ⟨b2, 0, none⟩) [0, 1, 2, 3] := .inr ⟨b2, 0, rfl, blk_lt' h2, fun i hi => by
    rcases lt4 (show i < 4 from hi) with rfl | rfl | rfl | rfl <;> exact blk_cell' h2 _⟩
  exact setup_good 4 E4 W4 _ 4 _ [0, 1, 2, 3] 4 _ 4 w hA hN (ints_blk4 h3) graph4 rfl (by decide) (by decide)

theorem pairs_blk4 {w : World} {g : Nat} {t : TypeId} {a c : Nat} {b d : Int} (h : w.heap[g]? = some (.cells #[.int .i64 (a : Int), .int .i64 b, .int .i64 (c : Int), .int .i64 d] t (0, 0))) : Pairs w (some ⟨g, 0, none⟩) [(a, b), (c, d)] :=
  .inr ⟨g, 0, rfl, blk_lt' h, fun i hi => by
    rcases (by simp at hi; omega : i = 0 ∨ i = 1) with rfl | rfl <;> exact ⟨blk_cell' h _, blk_cell' h _⟩⟩
theorem hp0 (w : World) (o1 o2 o3 o4 : Obj) : ((((w.alloc o1).alloc o2).alloc o3).alloc o4).heap[w.heap.size]? = some o1 :=
  blk_below (blk_below (blk_below (heap_alloc_new w o1) (below_alloc' (Below.refl _ _) o2)) (below_alloc' (Below.refl _ _) o3)) (below_alloc' (Below.refl _ _) o4)
theorem hp2 (w : World) (o1 o2 o3 o4 : Obj) : ((((w.alloc o1).alloc o2).alloc o3).alloc o4).heap[w.heap.size + 1 + 1]? = some o3 := by
  have h := heap_alloc_new ((w.alloc o1).alloc o2) o3
  have e : ((w.alloc o1).alloc o2).heap.size = w.heap.size + 1 + 1 := by simp
  rw [e] at h
  exact blk_below h (below_alloc' (Below.refl _ _) o4)
theorem hp3 (w : World) (o1 o2 o3 o4 : Obj) : ((((w.alloc o1).alloc o2).alloc o3).alloc o4).heap[w.heap.size + 1 + 1 + 1]? = some o4 := by
  have h := heap_alloc_new (((w.alloc o1).alloc o2).alloc o3) o4
  have e : (((w.alloc o1).alloc o2).alloc o3).heap.size = w.heap.size + 1 + 1 + 1 := by simp
  rw [e] at h
  exact h
def RetTrue (w : World) (en : Ending) (w' : World) : Prop := en = .returned (.bool true) ∧ Below w.heap.size w w'
set_option maxRecDepth 100000 in
set_option maxHeartbeats 4000000 in
theorem lives_any (w : World) : Calls Try.prog 13 #[] w (RetTrue w) := by
  go_enter Try.func13, Try.ntmps13
  go_wp2_with fail
  refine (setup4 (b1 := w.heap.size) (b2 := w.heap.size + 1 + 1) (b3 := w.heap.size + 1 + 1 + 1) (t1 := 48) (t2 := 3) (t3 := 3) (hp0 _ _ _ _ _) (hp2 _ _ _ _ _) (hp3 _ _ _ _ _)).mono ?_
  rintro en w1 ⟨m, rfl, hM, hm, hb⟩
  have HM := hid hM
  have HB := hid (below_then' (((below_alloc' (below_alloc' (below_alloc' (below_alloc' (Below.refl w.heap.size w) _) _) _) _))) hb)
  clear hM hm hb
  go_wp2_with fail
  refine (from4 HM.out).mono ?_
  rintro en w2 ⟨A2, c2, rfl, hI2, hb2⟩
  have HI2 := hid hI2
  have HB2 := hid hb2
  have HM2 := hid (HM.out.below hb2)
  clear hI2 hb2
  go_wp2_with fail
  refine (to4 HM2.out).mono ?_
  rintro en w3 ⟨A3, c3, rfl, hI3, hb3⟩
  have HI3 := hid hI3
  have HI23 := hid (HI2.out.below hb3)
  have HB3 := hid (below_then' HB2.out hb3)
  have HM3 := hid (HM2.out.below hb3)
  clear hI3 hb3 HI2 HB2 HM2
  go_wp2_with fail
  refine (within4 HM3.out).mono ?_
  rintro en w4 ⟨A4, c4, rfl, hP4, hb4⟩
  have HP4 := hid hP4
  have HI24 := hid (HI23.out.below hb4)
  have HI34 := hid (HI3.out.below hb4)
  have HB4 := hid (below_then' HB3.out hb4)
  have HM4 := hid (HM3.out.below hb4)
  clear hP4 hb4 HI23 HI3 HB3 HM3
  go_wp2_with fail
  refine (sfrom_nil 0 w4).mono ?_
  rintro en w5 ⟨rfl, hw5⟩
  have hw5' := hw5.symm
  subst hw5'
  go_wp2_with fail
  refine (tobad4 HM4.out).mono ?_
  rintro en w6 ⟨rfl, hb6⟩
  have HP6 := hid (HP4.out.below hb6)
  have HI26 := hid (HI24.out.below hb6)
  have HI36 := hid (HI34.out.below hb6)
  have HB6 := hid (HB.out.trans ((below_then' HB4.out hb6).mono HB.out.size))
  clear hb6 HP4 HI24 HI34 HB4 HM4 HM HB
  go_wp2_with fail
  have hal := below_alloc' (Below.refl w6.heap.size w6) (.cells #[.int .i64 0, .int .i64 1, .int .i64 2, .int .i64 3] 3)
  refine (equal4 (a := 0) (b := 1) (c := 2) (d := 3) (by exact HI26.out.below hal) (by exact ints_blk4 (new_blk w6 _ _))).mono ?_
  rintro en w7 ⟨rfl, n7, rfl⟩
  have HA7 := hid (below_drewN' hal n7)
  clear hal
  go_wp2_with fail
  have hal := below_alloc' HA7.out (.cells #[.int .i64 0, .int .i64 3, .int .i64 2, .int .i64 1] 3)
  refine (equal4 (a := 0) (b := 3) (c := 2) (d := 1) (by exact HI36.out.below hal) (by exact ints_blk4 (by have := new_blk ((w6.alloc (.cells #[.int .i64 0, .int .i64 1, .int .i64 2, .int .i64 3] 3)).drewN n7) #[.int .i64 0, .int .i64 3, .int .i64 2, .int .i64 1] 3; simpa using this))).mono ?_
  rintro en w8 ⟨rfl, n8, rfl⟩
  have HA8 := hid (below_drewN' hal n8)
  clear hal
  go_wp2_with fail
  have hal := below_alloc' HA8.out (.cells #[.int .i64 0, .int .i64 0, .int .i64 1, .int .i64 1] 79)
  refine (same4 (by exact HP6.out.below hal) (by exact pairs_blk4 (a := 0) (b := 0) (c := 1) (d := 1) (by have := new_blk ((((w6.alloc (.cells #[.int .i64 0, .int .i64 1, .int .i64 2, .int .i64 3] 3)).drewN n7).alloc (.cells #[.int .i64 0, .int .i64 3, .int .i64 2, .int .i64 1] 3)).drewN n8) #[.int .i64 0, .int .i64 0, .int .i64 1, .int .i64 1] 79; simpa using this))).mono ?_
  rintro en w9 ⟨rfl, n9, rfl⟩
  have HA9 := hid (HB6.out.trans ((below_drewN' hal n9).mono HB6.out.size))
  clear hal
  go_wp2
  go_ret
  exact ⟨rfl, HA9.out⟩

end Go.Proofs.Ytpfjannhggcmiaa
