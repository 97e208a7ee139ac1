/- Contracts: the reference's errors for a vertex out of range, distances to a vertex, the forms of chapter 43, equality of lists. -/
import Derived.Test.YtpfjannhggcmiaaRef3
namespace Go.Proofs.Ytpfjannhggcmiaa
open Go.RowKit Go.Maps

def RetErr (w : World) (en : Ending) (w' : World) : Prop := en = .returned (.tuple #[.slice none 0 0, .int .i64 2]) ∧ Below w.heap.size w w'
set_option maxRecDepth 100000 in
set_option maxHeartbeats 4000000 in
theorem ref38from_bad (n : Nat) (s : Int) (E : List (Nat × Nat)) (ws : List Int) (A B : Option Addr) (c e : Nat) (w : World) (hG : GraphOk n E ws) (hr : Arcs w A E) (hw : Ints w B ws) (hs : s < 0 ∨ (n : Int) ≤ s) :
    Calls Try.prog 44 #[.agg #[.int .i64 (n : Int), .slice A E.length c], .slice B ws.length e, .int .i64 s] w (RetErr w) := by
  have hn := hG.n_le
  have hel := hG.e_le
  have hwl := hG.w_len
  have Hr := hid hr
  have Hw := hid hw
  have HG := hid hG
  have Hwl := hid hwl
  have hwb : ws.length ≤ 4194304 := by omega
  have hs' : s < 0 ∨ (0 ≤ s ∧ (n : Int) ≤ s) := by omega
  clear hr hw hG hwl hs
  go_enter Try.func44, Try.ntmps44
  go_wp2_with fail
  rw [← toI_length E]
  refine (ref38check n A (toI E) c B ws e _ (arcs_toI.1 (by exact Hr.out.below (below_alloc' (Below.refl _ _) _))) (by exact Hw.out.below (below_alloc' (Below.refl _ _) _)) (by omega) (by omega) (by rw [toI_length]; exact hel) (by omega)).mono ?_
  rintro e w1 ⟨r, rfl, hr0, hb⟩
  obtain rfl : r = 0 := hr0.2 ⟨HG.out.arcs, by rw [toI_length]; exact Hwl.out, HG.out.w_ok⟩
  rw [toI_length E] at hb ⊢
  have hb1 : Below w.heap.size w w1 := below_then' (below_alloc' (Below.refl _ _) _) hb
  have kb := blk_below (new_blk w _ _) hb
  have b0 : w1.cell? ⟨w.heap.size, 0, none⟩ = some (.int .i64 (n : Int)) := blk_cell' kb 0
  have bl := blk_lt' kb
  have Hb1 := hid hb1
  clear hb1 hb kb hr0
  rcases hs' with h1 | ⟨h1, h2⟩
  all_goals
    go_wp2
    go_ret2
    exact ⟨rfl, Hb1.out⟩

set_option maxRecDepth 100000 in
set_option maxHeartbeats 4000000 in
theorem ref38to_any (n : Nat) (s : Int) (E : List (Nat × Nat)) (ws : List Int) (A B : Option Addr) (c e : Nat) (w : World) (hG : GraphOk n E ws) (hr : Arcs w A E) (hw : Ints w B ws) (R : World → Ending → World → Prop)
    (hR : ∀ W A' c', Below w.heap.size w W → Arcs W A' (swapE E) → Ints W B ws → Calls Try.prog 44 #[.agg #[.int .i64 (n : Int), .slice A' (swapE E).length c'], .slice B ws.length e, .int .i64 s] W fun en w' => ∃ v0 v1, en = .returned (.tuple #[v0, v1]) ∧ R w (.returned (.tuple #[v0, v1])) w') :
    Calls Try.prog 45 #[.agg #[.int .i64 (n : Int), .slice A E.length c], .slice B ws.length e, .int .i64 s] w (R w) := by
  have hn := hG.n_le
  have hel := hG.e_le
  have hwl := hG.w_len
  have Hr := hid hr
  have Hw := hid hw
  have HG := hid hG
  have Hwl := hid hwl
  have hwb : ws.length ≤ 4194304 := by omega
  have HR := hid hR
  clear hr hw hG hwl hR
  go_enter Try.func45, Try.ntmps45
  go_wp2_with fail
  rw [← toI_length E]
  refine (ref38check n A (toI E) c B ws e _ (arcs_toI.1 (by exact Hr.out.below (below_alloc' (Below.refl _ _) _))) (by exact Hw.out.below (below_alloc' (Below.refl _ _) _)) (by omega) (by omega) (by rw [toI_length]; exact hel) (by omega)).mono ?_
  rintro e w1 ⟨r, rfl, hr0, hb⟩
  obtain rfl : r = 0 := hr0.2 ⟨HG.out.arcs, by rw [toI_length]; exact Hwl.out, HG.out.w_ok⟩
  rw [toI_length E] at hb ⊢
  have hb1 : Below w.heap.size w w1 := below_then' (below_alloc' (Below.refl _ _) _) hb
  have kb := blk_below (new_blk w _ _) hb
  have b0 : w1.cell? ⟨w.heap.size, 0, none⟩ = some (.int .i64 (n : Int)) := blk_cell' kb 0
  have b1 : w1.cell? ⟨w.heap.size, 1, none⟩ = some (.slice A E.length c) := blk_cell' kb 1
  have bl := blk_lt' kb
  have Hb1 := hid hb1
  clear hb1 hb kb hr0
  go_wp2_with fail
  refine (ref37rev n E A c w1 (by omega) hel HG.out.ends (Hr.out.below Hb1.out)).mono ?_
  rintro e w2 ⟨A', c', rfl, hc', hf', hN, hb⟩
  have Hb2 : Hid (Below w.heap.size w w2) := below_then' Hb1.out hb
  have HN := hid hN
  clear hb hN
  go_wp2_with fail
  refine (HR.out w2 A' c' Hb2.out HN.out (Hw.out.below Hb2.out)).mono ?_
  rintro e w3 ⟨v0, v1, rfl, h3⟩
  have H3 := hid h3
  clear h3
  go_wp2
  exact H3.out
theorem ref38to (n s : Nat) (E : List (Nat × Nat)) (ws : List Int) (A B : Option Addr) (c e : Nat) (w : World) (hG : GraphOk n E ws) (hr : Arcs w A E) (hw : Ints w B ws) (hs : s < n) :
    Calls Try.prog 45 #[.agg #[.int .i64 (n : Int), .slice A E.length c], .slice B ws.length e, .int .i64 (s : Int)] w (RetDist w (IsDist n (swapE E) ws s)) := by
  refine ref38to_any n s E ws A B c e w hG hr hw (fun w => RetDist w (IsDist n (swapE E) ws s)) ?_
  intro W A' c' hb hN hW
  refine (ref38from n s (swapE E) ws A' B c' e W hG.swap hN hW hs).mono ?_
  rintro en w' ⟨d, A2, c2, rfl, hP, hc, hf, hI, hb'⟩
  exact ⟨_, _, rfl, d, A2, c2, rfl, hP, hc, hf.mono hb.size, hI, below_then' hb hb'⟩
theorem ref38to_bad (n : Nat) (s : Int) (E : List (Nat × Nat)) (ws : List Int) (A B : Option Addr) (c e : Nat) (w : World) (hG : GraphOk n E ws) (hr : Arcs w A E) (hw : Ints w B ws) (hs : s < 0 ∨ (n : Int) ≤ s) :
    Calls Try.prog 45 #[.agg #[.int .i64 (n : Int), .slice A E.length c], .slice B ws.length e, .int .i64 s] w (RetErr w) := by
  refine ref38to_any n s E ws A B c e w hG hr hw RetErr ?_
  intro W A' c' hb hN hW
  refine (ref38from_bad n s (swapE E) ws A' B c' e W hG.swap hN hW hs).mono ?_
  rintro en w' ⟨rfl, hb'⟩
  exact ⟨_, _, rfl, rfl, below_then' hb hb'⟩

/-! ### chapter 43's forms -/
set_option maxHeartbeats 1000000 in
theorem ref43_from (g : Value) (v1 v2 : Value) (c0 c1 : Value) (w : World) (hg : g = .agg #[c0, c1]) (R : World → Ending → World → Prop)
    (hR : ∀ W, Below w.heap.size w W → Calls Try.prog 44 #[.agg #[c0, c1], v1, v2] W fun en w' => ∃ u0 u1, en = .returned (.tuple #[u0, u1]) ∧ R w (.returned (.tuple #[u0, u1])) w') :
    Calls Try.prog 16 #[.agg #[c0, c1], v1, v2] w (R w) := by
  have HR := hid hR
  clear hR hg
  go_enter Try.func16, Try.ntmps16
  go_wp2_with fail
  refine (HR.out _ (below_alloc' (Below.refl _ _) _)).mono ?_
  rintro e w3 ⟨u0, u1, rfl, h3⟩
  have H3 := hid h3
  clear h3
  go_wp2
  exact H3.out

set_option maxHeartbeats 1000000 in
theorem ref43_to (g : Value) (v1 v2 : Value) (c0 c1 : Value) (w : World) (hg : g = .agg #[c0, c1]) (R : World → Ending → World → Prop)
    (hR : ∀ W, Below w.heap.size w W → Calls Try.prog 45 #[.agg #[c0, c1], v1, v2] W fun en w' => ∃ u0 u1, en = .returned (.tuple #[u0, u1]) ∧ R w (.returned (.tuple #[u0, u1])) w') :
    Calls Try.prog 18 #[.agg #[c0, c1], v1, v2] w (R w) := by
  have HR := hid hR
  clear hR hg
  go_enter Try.func18, Try.ntmps18
  go_wp2_with fail
  refine (HR.out _ (below_alloc' (Below.refl _ _) _)).mono ?_
  rintro e w3 ⟨u0, u1, rfl, h3⟩
  have H3 := hid h3
  clear h3
  go_wp2
  exact H3.out
theorem ref43from (n s : Nat) (E : List (Nat × Nat)) (ws : List Int) (A B : Option Addr) (c e : Nat) (w : World) (hG : GraphOk n E ws) (hr : Arcs w A E) (hw : Ints w B ws) (hs : s < n) :
    Calls Try.prog 16 #[.agg #[.int .i64 (n : Int), .slice A E.length c], .slice B ws.length e, .int .i64 (s : Int)] w (RetDist w (IsDist n E ws s)) := by
  refine ref43_from _ _ _ _ _ w rfl (fun w => RetDist w (IsDist n E ws s)) fun W hb => ?_
  refine (ref38from n s E ws A B c e W hG (hr.below hb) (hw.below hb) hs).mono ?_
  rintro en w' ⟨d, A2, c2, rfl, hP, hc, hf, hI, hb'⟩
  exact ⟨_, _, rfl, d, A2, c2, rfl, hP, hc, hf.mono hb.size, hI, below_then' hb hb'⟩
theorem ref43from_bad (n : Nat) (s : Int) (E : List (Nat × Nat)) (ws : List Int) (A B : Option Addr) (c e : Nat) (w : World) (hG : GraphOk n E ws) (hr : Arcs w A E) (hw : Ints w B ws) (hs : s < 0 ∨ (n : Int) ≤ s) :
    Calls Try.prog 16 #[.agg #[.int .i64 (n : Int), .slice A E.length c], .slice B ws.length e, .int .i64 s] w (RetErr w) := by
  refine ref43_from _ _ _ _ _ w rfl RetErr fun W hb => ?_
  refine (ref38from_bad n s E ws A B c e W hG (hr.below hb) (hw.below hb) hs).mono ?_
  rintro en w' ⟨rfl, hb'⟩
  exact ⟨_, _, rfl, rfl, below_then' hb hb'⟩
theorem ref43to (n s : Nat) (E : List (Nat × Nat)) (ws : List Int) (A B : Option Addr) (c e : Nat) (w : World) (hG : GraphOk n E ws) (hr : Arcs w A E) (hw : Ints w B ws) (hs : s < n) :
    Calls Try.prog 18 #[.agg #[.int .i64 (n : Int), .slice A E.length c], .slice B ws.length e, .int .i64 (s : Int)] w (RetDist w (IsDist n (swapE E) ws s)) := by
  refine ref43_to _ _ _ _ _ w rfl (fun w => RetDist w (IsDist n (swapE E) ws s)) fun W hb => ?_
  refine (ref38to n s E ws A B c e W hG (hr.below hb) (hw.below hb) hs).mono ?_
  rintro en w' ⟨d, A2, c2, rfl, hP, hc, hf, hI, hb'⟩
  exact ⟨_, _, rfl, d, A2, c2, rfl, hP, hc, hf.mono hb.size, hI, below_then' hb hb'⟩
theorem ref43to_bad (n : Nat) (s : Int) (E : List (Nat × Nat)) (ws : List Int) (A B : Option Addr) (c e : Nat) (w : World) (hG : GraphOk n E ws) (hr : Arcs w A E) (hw : Ints w B ws) (hs : s < 0 ∨ (n : Int) ≤ s) :
    Calls Try.prog 18 #[.agg #[.int .i64 (n : Int), .slice A E.length c], .slice B ws.length e, .int .i64 s] w (RetErr w) := by
  refine ref43_to _ _ _ _ _ w rfl RetErr fun W hb => ?_
  refine (ref38to_bad n s E ws A B c e W hG (hr.below hb) (hw.below hb) hs).mono ?_
  rintro en w' ⟨rfl, hb'⟩
  exact ⟨_, _, rfl, rfl, below_then' hb hb'⟩

/-! ### equality of lists of integers -/
def RetQ (w : World) (P : Prop) (en : Ending) (w' : World) : Prop := ∃ r : Bool, en = .returned (.bool r) ∧ (r = true ↔ P) ∧ ∃ n, w' = w.drewN n
def EqRel (w : World) (xs ys : List Int) (i : Value) (wr : World) : Prop := ∃ k : Nat, k ≤ xs.length ∧ i = .int .i64 k ∧ (∀ j, j < k → xs.getD j 0 = ys.getD j 0) ∧ ∃ n, wr = w.drewN n
theorem list_eq_of {xs ys : List Int} (hl : xs.length = ys.length) (h : ∀ j, j < xs.length → xs.getD j 0 = ys.getD j 0) : xs = ys := by
  apply List.ext_getElem hl
  intro i h1 h2
  have := h i h1
  simpa [List.getD, h1, h2] using this
set_option maxHeartbeats 2000000 in
theorem equal_any (A B : Option Addr) (xs ys : List Int) (c d : Nat) (w : World) (hx : Ints w A xs) (hy : Ints w B ys) (hb : xs.length ≤ 1099511627776) :
    Calls Try.prog 19 #[.slice A xs.length c, .slice B ys.length d] w (RetQ w (xs = ys)) := by
  have Hx := hid hx
  have Hy := hid hy
  clear hx hy
  by_cases hl : xs.length = ys.length
  · have e1 : ((xs.length : Int) != (ys.length : Int)) = false := by rw [hl]; simp
    have e2 : (xs.length != ys.length) = false := by rw [hl]; simp
    have Hl := hid hl
    clear hl
    go_enter Try.func19, Try.ntmps19
    go_wp2
    go_loopw [5] (fun i wr => EqRel w xs ys i wr) (fun i _ => xs.length - (intOf i).toNat)
    case atStart => exact ⟨0, Nat.zero_le _, rfl, fun j hj => by omega, 0, rfl⟩
    case round =>
      obtain ⟨k, hk, rfl, hg, m, rfl⟩ := hrel
      by_cases hlt : k < xs.length
      · have hlt2 : k < ys.length := by rw [← Hl.out]; exact hlt
        obtain ⟨b, o, rfl, hbb, cx⟩ := Hx.out.at_ hlt
        obtain ⟨b2, o2, rfl, hbb2, cy⟩ := Hy.out.at_ hlt2
        obtain ⟨x, hx⟩ : ∃ x, xs.getD k 0 = x := ⟨_, rfl⟩
        obtain ⟨y, hy⟩ : ∃ y, ys.getD k 0 = y := ⟨_, rfl⟩
        rw [hx] at cx
        rw [hy] at cy
        have HX := hid hx
        have HY := hid hy
        have Hg := hid hg
        clear hx hy hg
        by_cases hxy : x = y
        · subst hxy
          go_wp2
          go_quiet (fail)
          go_wp2
          go_roundw
          case rel =>
            have hR : EqRel w xs ys (.int .i64 ((k + 1 : Nat) : Int)) (w.drewN (m + nq)) := ⟨k + 1, by omega, rfl, fun j hj => by
              by_cases e : j = k
              · rw [e, HX.out, HY.out]
              · exact Hg.out j (by omega), _, rfl⟩
            first | exact hR | ((repeat apply Exists.intro); exact ⟨hR, rfl⟩)
          case measure => simp [intOf]; omega
        · have n1 : (x != y) = true := by simp [hxy]
          have hno : Hid (¬ xs = ys) := fun h => hxy (by rw [← HX.out, ← HY.out, h])
          clear hxy
          go_wp2
          go_quiet (fail)
          go_wp2
          go_ret
          exact ⟨false, rfl, ⟨fun h => (by cases h), fun h => absurd h hno.out⟩, m + nq, by simp [World.drewN_drewN]⟩
      · have hall : Hid (xs = ys) := list_eq_of Hl.out (fun j hj => hg j (by omega))
        clear hg
        go_wp2
        go_ret
        exact ⟨true, rfl, ⟨fun _ => hall.out, fun _ => rfl⟩, _, rfl⟩
  · have e1 : ((xs.length : Int) != (ys.length : Int)) = true := by simp; omega
    have e2 : (xs.length != ys.length) = true := by simp; omega
    have hno : Hid (¬ xs = ys) := fun h => hl (by rw [h])
    clear hl
    go_enter Try.func19, Try.ntmps19
    go_wp2
    go_ret
    exact ⟨false, rfl, ⟨fun h => (by cases h), fun h => absurd h hno.out⟩, 0, rfl⟩

end Go.Proofs.Ytpfjannhggcmiaa
