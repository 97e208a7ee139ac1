/- Parts of the contract of sweep.all: plain lists. -/
import Derived.Test.YtpfjannhggcmiaaSw1
namespace Go.Proofs.Ytpfjannhggcmiaa
open Go.RowKit Go.Maps

theorem SweepAt.stepR {n : Nat} {E : List (Nat × Nat)} {ws : List Int} {order ranks : List Nat} {edges : List (Nat × Nat)} {U D : Nat → Nat → Int} {s j : Nat} (hg : HG n E order ranks edges) (hw : CHW n E ws ranks edges U D) {cost : Nat → Option Int} {r : Nat} {d : List Int} (h : SweepAt n E ws ranks edges D s cost r j d) {v x : Nat} (hv : v < n) (hr : ranks.getD v 0 = r)
    (he : edges.getD ((upOf edges v).getD j 0) (0, 0) = (v, x)) (hm : (v, x) ∈ edges) : SweepAt n E ws ranks edges D s cost r (j + 1) (relaxD d v x (D v x)) := by
  unfold relaxD
  split
  · rename_i hc; exact h.relax hg hw hv hr he hm hc.2 hc.1
  · rename_i hc; exact h.skip hg hv hr he (fun h => hc ⟨h.2, h.1⟩)
def listD (n : Nat) (L : List (Nat × Int)) : List Int := L.foldl (fun d p => d.set p.1 p.2) (List.replicate n INF)
theorem foldD_len (L : List (Nat × Int)) : ∀ d : List Int, (L.foldl (fun d p => d.set p.1 p.2) d).length = d.length := by
  induction L with
  | nil => intro d; rfl
  | cons p L ih => intro d; rw [List.foldl_cons, ih, List.length_set]
theorem listD_len (n : Nat) (L : List (Nat × Int)) : (listD n L).length = n := by unfold listD; rw [foldD_len]; simp
theorem listD_snoc (n : Nat) (L : List (Nat × Int)) (k : Nat) (hk : k < L.length) : listD n (L.take (k + 1)) = (listD n (L.take k)).set (L.getD k (0, 0)).1 (L.getD k (0, 0)).2 := by
  unfold listD
  rw [take_snoc' L k hk (0, 0), List.foldl_append]
  rfl
theorem foldD_get (L : List (Nat × Int)) : L.Pairwise (fun p q => p.1 ≠ q.1) → ∀ d : List Int, (∀ u c, (u, c) ∈ L → u < d.length → (L.foldl (fun d p => d.set p.1 p.2) d).getD u 0 = c) ∧ (∀ u, (∀ c, (u, c) ∉ L) → (L.foldl (fun d p => d.set p.1 p.2) d).getD u 0 = d.getD u 0) := by
  induction L with
  | nil => intro _ d; exact ⟨fun u c h => (by cases h), fun u _ => rfl⟩
  | cons p L ih =>
    intro hp d
    rw [List.pairwise_cons] at hp
    obtain ⟨h1, h2⟩ := ih hp.2 (d.set p.1 p.2)
    rw [List.foldl_cons]
    constructor
    · intro u c hm hu
      rcases List.mem_cons.1 hm with e | hm'
      · have hno : ∀ c', (u, c') ∉ L := fun c' hc' => hp.1 _ hc' (by rw [← e])
        rw [h2 u hno, ← e]
        simp [List.getD, hu]
      · exact h1 u c hm' (by simpa using hu)
    · intro u hno
      have hne : p.1 ≠ u := fun e => hno p.2 (by rw [← e]; simp)
      rw [h2 u (fun c hc => hno c (List.mem_cons_of_mem _ hc))]
      simp [List.getD, hne]
theorem listD_all {n : Nat} {E : List (Nat × Nat)} {ws : List Int} {ranks : List Nat} {edges : List (Nat × Nat)} {U : Nat → Nat → Int} {s : Nat} {l : List (Nat × Int)} {cost via : Nat → Option Int} (hc : ClimbEnd n E ws ranks edges U s l cost via) : listD n l = startD n cost := by
  have hp : l.Pairwise fun p q => p.1 ≠ q.1 := hc.sorted.imp (fun {p q} h e => by rw [e] at h; omega)
  obtain ⟨h1, h2⟩ := foldD_get l hp (List.replicate n INF)
  refine ext_getD 0 (by rw [listD_len]; simp [startD]) (fun u hu => ?_)
  rw [listD_len] at hu
  rw [startD_get hu]
  unfold listD
  cases hcu : cost u with
  | none =>
    rw [h2 u (fun c hm => by have := (hc.mem u c).1 hm; rw [hcu] at this; cases this)]
    simp [List.getD, hu]
  | some c =>
    rw [h1 u c ((hc.mem u c).2 hcu) (by simpa using hu)]
    rfl
/-- The first k are set. -/
def fillD (n k : Nat) : List Int := List.replicate k INF ++ List.replicate (n - k) 0
theorem fillD_len (n k : Nat) (hk : k ≤ n) : (fillD n k).length = n := by unfold fillD; simp; omega
theorem fillD_get (n k u : Nat) : (fillD n k).getD u 0 = if u < k then INF else 0 := by
  unfold fillD
  rw [List.getD_eq_getElem?_getD, List.getElem?_append, List.length_replicate]
  by_cases h1 : u < k
  · rw [if_pos h1, if_pos h1, List.getElem?_replicate, if_pos h1]; rfl
  · rw [if_neg h1, if_neg h1, List.getElem?_replicate]
    split <;> rfl
theorem fillD_succ (n k : Nat) (hk : k < n) : (fillD n k).set k INF = fillD n (k + 1) := by
  refine ext_getD 0 (by rw [List.length_set, fillD_len _ _ (by omega), fillD_len _ _ (by omega)]) (fun u hu => ?_)
  rw [List.length_set, fillD_len _ _ (by omega)] at hu
  rw [fillD_get]
  by_cases e : k = u
  · subst e
    rw [getD_set_same _ _ _ (by rw [fillD_len _ _ (by omega)]; exact hk), if_pos (by omega)]
  · rw [getD_set_other _ _ _ _ e, fillD_get]
    by_cases h1 : u < k
    · rw [if_pos h1, if_pos (by omega)]
    · rw [if_neg h1, if_neg (by omega)]
theorem fillD_zero (n : Nat) : ((fillD n 0).map intv).toArray = Array.replicate n (.int .i64 0) := by simp [fillD, intv]
theorem fillD_all (n : Nat) : fillD n n = listD n [] := by simp [fillD, listD]
theorem Arcs.grown {w w1 : World} {A : Option Addr} {xs : List (Nat × Nat)} {row : Option Nat} (h : Arcs w A xs) (hg : w.grownBy w1 row) (hn : ∀ ad, A = some ad → some ad.block ≠ row) : Arcs w1 A xs := by
  rcases h with h | ⟨b, o, hA, hlt, hc⟩
  · exact .inl h
  · refine .inr ⟨b, o, hA, Nat.lt_of_lt_of_le hlt hg.size, fun i hi => ?_⟩
    have := hg.block b hlt (hn _ hA)
    exact ⟨(World.cell?_of_block this).trans (hc i hi).1, (World.cell?_of_block this).trans (hc i hi).2⟩
theorem upOf_get {n : Nat} {E : List (Nat × Nat)} {order ranks : List Nat} {edges : List (Nat × Nat)} (hg : HG n E order ranks edges) {v j : Nat} (hj : j < (upOf edges v).length) :
    ∃ e x, (upOf edges v).getD j 0 = e ∧ e < edges.length ∧ edges.getD e (0, 0) = (v, x) ∧ (v, x) ∈ edges ∧ edges.idxOf (v, x) = e ∧ x < n := by
  have h1 := getD_mem2 (d := 0) hj
  obtain ⟨h2, h3⟩ := mem_upOf.1 h1
  have h4 : edges.getD ((upOf edges v).getD j 0) (0, 0) = (v, (edges.getD ((upOf edges v).getD j 0) (0, 0)).2) := Prod.ext h3 rfl
  have h5 := edge_mem h2
  rw [h3] at h5
  refine ⟨_, _, rfl, h2, h4, h5, ?_, (hg.lt _ _ h5).2.1⟩
  rw [← h4, hg.idx h2]

/-- Distances and no error. -/
def RetSweep (w : World) (n : Nat) (E : List (Nat × Nat)) (ws : List Int) (s : Nat) (en : Ending) (w' : World) : Prop :=
  ∃ A c d, en = .returned (.tuple #[.slice A n c, .int .i64 0]) ∧ n ≤ c ∧ Ints w' A d ∧ IsDist n E ws s d ∧ Below w.heap.size w w'
def RetErr2 (w : World) (e : Int) (en : Ending) (w' : World) : Prop := en = .returned (.tuple #[.slice none 0 0, .int .i64 e]) ∧ Below w.heap.size w w'

end Go.Proofs.Ytpfjannhggcmiaa
