/- Contracts of ref43.Same and ref43.Within. -/
import Derived.Test.YtpfjannhggcmiaaWi2
import Derived.Laws.StructEq
namespace Go.Proofs.Ytpfjannhggcmiaa
open Go.RowKit Go.Maps

def SameRel (w : World) (xs ys : List (Nat × Int)) (i : Value) (wr : World) : Prop := ∃ k : Nat, k ≤ xs.length ∧ i = .int .i64 k ∧ (∀ j, j < k → xs.getD j (0, 0) = ys.getD j (0, 0)) ∧ ∃ n, wr = w.drewN n
theorem pair_eq_of {xs ys : List (Nat × Int)} (hl : xs.length = ys.length) (h : ∀ j, j < xs.length → xs.getD j (0, 0) = ys.getD j (0, 0)) : xs = ys := ext_getD (0, 0) hl h
set_option maxRecDepth 100000 in
set_option maxHeartbeats 4000000 in
theorem same_any (A B : Option Addr) (xs ys : List (Nat × Int)) (c d : Nat) (w : World) (hx : Pairs w A xs) (hy : Pairs w B ys) (hb : xs.length ≤ 1099511627776) :
    Calls Try.prog 22 #[.slice A xs.length c, .slice B ys.length d] w (RetQ w (xs = ys)) := by
  have Hx := hid hx
  have Hy := hid hy
  clear hx hy
  by_cases hl : xs.length = ys.length
  · have e1 : ((xs.length : Int) != (ys.length : Int)) = false := by rw [hl]; simp
    have e2 : (xs.length != ys.length) = false := by rw [hl]; simp
    have Hl := hid hl
    clear hl
    go_enter Try.func22, Try.ntmps22
    go_wp2
    go_loopw [5] (fun i wr => SameRel w xs ys i wr) (fun i _ => xs.length - (intOf i).toNat)
    case atStart => exact ⟨0, Nat.zero_le _, rfl, fun j hj => by omega, 0, rfl⟩
    case round =>
      obtain ⟨k, hk, rfl, hg, m, rfl⟩ := hrel
      by_cases hlt : k < xs.length
      · have hlt2 : k < ys.length := by rw [← Hl.out]; exact hlt
        obtain ⟨b, o, rfl, hbb, cx0, cx1⟩ := Hx.out.at_ hlt
        obtain ⟨b2, o2, rfl, hbb2, cy0, cy1⟩ := Hy.out.at_ hlt2
        obtain ⟨x0, x1, hx⟩ : ∃ a b, xs.getD k (0, 0) = (a, b) := ⟨_, _, rfl⟩
        obtain ⟨y0, y1, hy⟩ : ∃ a b, ys.getD k (0, 0) = (a, b) := ⟨_, _, rfl⟩
        rw [hx] at cx0 cx1
        rw [hy] at cy0 cy1
        dsimp only at cx0 cx1 cy0 cy1
        have HX := hid hx
        have HY := hid hy
        have Hg := hid hg
        clear hx hy hg
        by_cases hxy : x0 = y0 ∧ x1 = y1
        · obtain ⟨hxy0, hxy1⟩ := hxy
          subst hxy0
          subst hxy1
          go_wp2
          go_quiet (fail)
          go_wp2
          go_roundw
          case rel =>
            have hR : SameRel w xs ys (.int .i64 ((k + 1 : Nat) : Int)) (w.drewN (m + nq)) := ⟨k + 1, by omega, rfl, fun j hj => by
              by_cases e : j = k
              · rw [e, HX.out, HY.out]
              · exact Hg.out j (by omega), _, rfl⟩
            first | exact hR | ((repeat apply Exists.intro); exact ⟨hR, rfl⟩)
          case measure => simp [intOf]; omega
        · have hno : Hid (¬ xs = ys) := fun h => hxy (by have h1 := HX.out; rw [h, HY.out] at h1; cases h1; exact ⟨rfl, rfl⟩)
          by_cases h0 : x0 = y0
          · have h1 : ¬ x1 = y1 := fun h => hxy ⟨h0, h⟩
            subst h0
            have q1 : (x1 == y1) = false := by simp [h1]
            clear hxy
            go_wp2
            go_quiet (fail)
            go_wp2
            go_ret
            exact ⟨false, rfl, ⟨fun h => (by cases h), fun h => absurd h hno.out⟩, m + nq, by simp [World.drewN_drewN]⟩
          · have q0 : ((x0 : Int) == (y0 : Int)) = false := by simp; omega
            have q1 : (x0 == y0) = false := by simp [h0]
            clear hxy
            go_wp2
            go_quiet (fail)
            go_wp2
            go_ret
            exact ⟨false, rfl, ⟨fun h => (by cases h), fun h => absurd h hno.out⟩, m + nq, by simp [World.drewN_drewN]⟩
      · have hall : Hid (xs = ys) := pair_eq_of Hl.out (fun j hj => hg j (by omega))
        clear hg
        go_wp2
        go_ret
        exact ⟨true, rfl, ⟨fun _ => hall.out, fun _ => rfl⟩, _, rfl⟩
  · have e1 : ((xs.length : Int) != (ys.length : Int)) = true := by simp; omega
    have e2 : (xs.length != ys.length) = true := by simp; omega
    have hno : Hid (¬ xs = ys) := fun h => hl (by rw [h])
    clear hl
    go_enter Try.func22, Try.ntmps22
    go_wp2
    go_ret
    exact ⟨false, rfl, ⟨fun h => (by cases h), fun h => absurd h hno.out⟩, 0, rfl⟩

end Go.Proofs.Ytpfjannhggcmiaa
