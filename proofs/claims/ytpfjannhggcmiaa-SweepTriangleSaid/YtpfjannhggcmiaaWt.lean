/- The weights of an edge, in plain terms (the least of its candidates), and the contract of the closure that adds two weights. -/
import Derived.Test.YtpfjannhggcmiaaMet
namespace Go.Proofs.Ytpfjannhggcmiaa
open Go.RowKit Go.Maps

def INF : Int := 1152921504606846976
def over (a b : Int) : Int := if a = INF ∨ b = INF then INF else a + b
/-- c is the least of the candidates, or INF. -/
structure Least (P : Int → Prop) (c : Int) : Prop where
  nonneg : 0 ≤ c
  le_inf : c ≤ INF
  le : ∀ x, P x → c ≤ x
  att : c < INF → P c
theorem Least.zero : Least (fun _ => False) INF := ⟨by unfold INF; omega, Int.le_refl _, fun _ h => h.elim, fun h => absurd h (Int.lt_irrefl _)⟩
theorem Least.congr {P Q : Int → Prop} {c : Int} (h : Least P c) (hpq : ∀ x, P x ↔ Q x) : Least Q c := ⟨h.nonneg, h.le_inf, fun x hx => h.le x ((hpq x).2 hx), fun hc => (hpq c).1 (h.att hc)⟩
theorem Least.min {P : Int → Prop} {c y : Int} (h : Least P c) (hy : 0 ≤ y) : Least (fun x => P x ∨ x = y) (if y < c then y else c) := by
  have h1 := h.nonneg
  have h2 := h.le_inf
  by_cases e : y < c
  · rw [if_pos e]
    exact ⟨hy, by omega, fun x hx => by rcases hx with hx | rfl; · have := h.le x hx; omega
                                        · omega, fun _ => .inr rfl⟩
  · rw [if_neg e]
    exact ⟨h1, h2, fun x hx => by rcases hx with hx | rfl; · exact h.le x hx
                                  · omega, fun hc => .inl (h.att hc)⟩
theorem over_rng {a b : Int} (ha : 0 ≤ a) (hb : 0 ≤ b) : 0 ≤ over a b := by
  unfold over
  split
  · unfold INF; omega
  · omega

/-- The weights of arcs are candidates (up: of the arcs that begin at the lower end; down: of the others), of the first k arcs of the edge. -/
def arcUp (M : MD) (e k : Nat) (x : Int) : Prop := ∃ j, j < k ∧ 0 ≤ M.w.getD ((M.arcs.getD e []).getD j 0) 0 ∧ (M.h.arcs.getD ((M.arcs.getD e []).getD j 0) (0, 0)).1 = (M.h.edges.getD e (0, 0)).1 ∧ x = M.w.getD ((M.arcs.getD e []).getD j 0) 0
def arcDown (M : MD) (e k : Nat) (x : Int) : Prop := ∃ j, j < k ∧ 0 ≤ M.w.getD ((M.arcs.getD e []).getD j 0) 0 ∧ (M.h.arcs.getD ((M.arcs.getD e []).getD j 0) (0, 0)).1 ≠ (M.h.edges.getD e (0, 0)).1 ∧ x = M.w.getD ((M.arcs.getD e []).getD j 0) 0
/-- The edges from a lower vertex to the ends. -/
def edA (M : MD) (e y : Nat) : Nat := (M.h.find y (M.h.edges.getD e (0, 0)).1).getD 0
def edB (M : MD) (e y : Nat) : Nat := (M.h.find y (M.h.edges.getD e (0, 0)).2).getD 0
def triUp (M : MD) (e k : Nat) (x : Int) : Prop := ∃ j, j < k ∧ x = over (M.down.getD (edA M e ((M.h.lower e).getD j 0)) 0) (M.up.getD (edB M e ((M.h.lower e).getD j 0)) 0)
def triDown (M : MD) (e k : Nat) (x : Int) : Prop := ∃ j, j < k ∧ x = over (M.down.getD (edB M e ((M.h.lower e).getD j 0)) 0) (M.up.getD (edA M e ((M.h.lower e).getD j 0)) 0)
def upC (M : MD) (e : Nat) (x : Int) : Prop := arcUp M e (M.arcs.getD e []).length x ∨ triUp M e (M.h.lower e).length x
def downC (M : MD) (e : Nat) (x : Int) : Prop := arcDown M e (M.arcs.getD e []).length x ∨ triDown M e (M.h.lower e).length x
/-- One more arc. -/
theorem exists_lt_succ {Q : Nat → Prop} {k : Nat} : (∃ j, j < k + 1 ∧ Q j) ↔ (∃ j, j < k ∧ Q j) ∨ Q k := by
  constructor
  · rintro ⟨j, hj, h⟩
    by_cases e : j = k
    · subst e; exact .inr h
    · exact .inl ⟨j, by omega, h⟩
  · rintro (⟨j, hj, h⟩ | h)
    · exact ⟨j, by omega, h⟩
    · exact ⟨k, by omega, h⟩

set_option maxHeartbeats 1000000 in
theorem over_any (a b : Int) (ha : 0 ≤ a) (hb : 0 ≤ b) (ha2 : a ≤ INF) (hb2 : b ≤ INF) (w : World) : Calls Try.prog 98 #[.int .i64 a, .int .i64 b] w (RetVal w (.int .i64 (over a b))) := by
  unfold INF at ha2 hb2
  by_cases h1 : a = 1152921504606846976
  · have e : over a b = 1152921504606846976 := by unfold over INF; rw [if_pos (.inl h1)]
    rw [e]
    subst h1
    clear e
    go_enter Try.func98, Try.ntmps98
    go_wp2
    go_ret
    exact ⟨rfl, rfl⟩
  · have d1 : (a == 1152921504606846976) = false := by simp [h1]
    have d1' : decide (a = 1152921504606846976) = false := decide_eq_false h1
    by_cases h2 : b = 1152921504606846976
    · have e : over a b = 1152921504606846976 := by unfold over INF; rw [if_pos (.inr h2)]
      rw [e]
      subst h2
      clear e
      go_enter Try.func98, Try.ntmps98
      go_wp2
      go_ret
      exact ⟨rfl, rfl⟩
    · have d2 : (b == 1152921504606846976) = false := by simp [h2]
      have d2' : decide (b = 1152921504606846976) = false := decide_eq_false h2
      have e : over a b = a + b := by unfold over INF; rw [if_neg (by simp [h1, h2])]
      rw [e]
      clear e
      go_enter Try.func98, Try.ntmps98
      go_wp2
      go_ret
      exact ⟨rfl, rfl⟩

end Go.Proofs.Ytpfjannhggcmiaa
