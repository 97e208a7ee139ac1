/- Walks and distances in plain Lean: what it is to be a shortest distance, that there is one alone, and the relaxing of arcs. No program in sight. -/
namespace Go.Proofs.Ytpfjannhggcmiaa

/-- A walk over open arcs (weight at least 0) from s. -/
inductive Walk (E : List (Nat × Nat)) (ws : List Int) (s : Nat) : Nat → Int → Prop
  | nil : Walk E ws s s 0
  | step {u v : Nat} {c : Int} {i : Nat} : Walk E ws s u c → i < E.length → E.getD i (0, 0) = (u, v) → 0 ≤ ws.getD i 0 → Walk E ws s v (c + ws.getD i 0)
theorem Walk.nonneg {E : List (Nat × Nat)} {ws : List Int} {s v : Nat} {c : Int} (h : Walk E ws s v c) : 0 ≤ c := by
  induction h with
  | nil => omega
  | step _ _ _ h ih => omega
theorem Walk.trans {E : List (Nat × Nat)} {ws : List Int} {s u v : Nat} {c d : Int} (h : Walk E ws s u c) (k : Walk E ws u v d) : Walk E ws s v (c + d) := by
  induction k with
  | nil => simpa using h
  | step _ hi he hw ih => rw [← Int.add_assoc]; exact .step ih hi he hw
theorem Walk.one {E : List (Nat × Nat)} {ws : List Int} {u v i : Nat} (hi : i < E.length) (he : E.getD i (0, 0) = (u, v)) (hw : 0 ≤ ws.getD i 0) : Walk E ws u v (ws.getD i 0) := by
  have := Walk.step (.nil : Walk E ws u u 0) hi he hw
  simpa using this
/-- The arcs' ends are below n. -/
def EndsOk (n : Nat) (E : List (Nat × Nat)) : Prop := ∀ i, i < E.length → (E.getD i (0, 0)).1 < n ∧ (E.getD i (0, 0)).2 < n
theorem Walk.lt {n : Nat} {E : List (Nat × Nat)} {ws : List Int} {s v : Nat} {c : Int} (hE : EndsOk n E) (hs : s < n) (h : Walk E ws s v c) : v < n := by
  cases h with
  | nil => exact hs
  | step _ hi he _ => have := (hE _ hi).2; rw [he] at this; exact this

/-- d holds the shortest distances from s; 2^60 stands for none. -/
def IsDist (n : Nat) (E : List (Nat × Nat)) (ws : List Int) (s : Nat) (d : List Int) : Prop :=
  d.length = n ∧ ∀ v, v < n → d.getD v 0 ≤ 1152921504606846976 ∧ (d.getD v 0 < 1152921504606846976 → Walk E ws s v (d.getD v 0)) ∧ ∀ c, Walk E ws s v c → d.getD v 0 ≤ c
theorem isDist_unique {n : Nat} {E : List (Nat × Nat)} {ws : List Int} {s : Nat} {d d' : List Int} (h : IsDist n E ws s d) (h' : IsDist n E ws s d') : d = d' := by
  obtain ⟨hl, h⟩ := h
  obtain ⟨hl', h'⟩ := h'
  apply List.ext_getElem
  · omega
  · intro i h1 h2
    have a := h i (by omega)
    have b := h' i (by omega)
    simp only [List.getD, List.getElem?_eq_getElem h1, List.getElem?_eq_getElem h2, Option.getD_some] at a b
    obtain ⟨a1, a2, a3⟩ := a
    obtain ⟨b1, b2, b3⟩ := b
    by_cases e : d[i] < 1152921504606846976
    · have := b3 _ (a2 e)
      by_cases e' : d'[i] < 1152921504606846976
      · have := a3 _ (b2 e')
        omega
      · omega
    · by_cases e' : d'[i] < 1152921504606846976
      · have := a3 _ (b2 e')
        omega
      · omega

/-- What the relaxing keeps. -/
structure Pot (n : Nat) (E : List (Nat × Nat)) (ws : List Int) (s : Nat) (d : List Int) : Prop where
  len : d.length = n
  rng : ∀ v, v < n → 0 ≤ d.getD v 0 ∧ d.getD v 0 ≤ 1152921504606846976
  start : d.getD s 0 = 0
  walk : ∀ v, v < n → d.getD v 0 < 1152921504606846976 → Walk E ws s v (d.getD v 0)
/-- No arc shortens a distance. -/
def Fixed (E : List (Nat × Nat)) (ws d : List Int) (k : Nat) : Prop :=
  ∀ i, i < k → 0 ≤ ws.getD i 0 → d.getD (E.getD i (0, 0)).1 0 < 1152921504606846976 → d.getD (E.getD i (0, 0)).2 0 ≤ d.getD (E.getD i (0, 0)).1 0 + ws.getD i 0
theorem isDist_of {n : Nat} {E : List (Nat × Nat)} {ws : List Int} {s : Nat} {d : List Int} (hE : EndsOk n E) (hs : s < n) (h : Pot n E ws s d) (hf : Fixed E ws d E.length) : IsDist n E ws s d := by
  refine ⟨h.len, fun v hv => ⟨(h.rng v hv).2, h.walk v hv, fun c hc => ?_⟩⟩
  clear hv
  induction hc with
  | nil => rw [h.start]; omega
  | @step u v c i hw hi he hwi ih =>
    have hu : u < n := hw.lt hE hs
    have hv : v < n := by have := (hE i hi).2; rwa [he] at this
    have := hf i hi hwi
    rw [he] at this
    simp only at this
    have := (h.rng v hv).2
    by_cases e : d.getD u 0 < 1152921504606846976
    · omega
    · omega

theorem getD_set_same (d : List Int) (i : Nat) (x : Int) (h : i < d.length) : (d.set i x).getD i 0 = x := by simp [List.getD, h]
theorem getD_set_other (d : List Int) (i j : Nat) (x : Int) (h : i ≠ j) : (d.set i x).getD j 0 = d.getD j 0 := by simp [List.getD, h]

theorem Pot.relax {n : Nat} {E : List (Nat × Nat)} {ws : List Int} {s : Nat} {d : List Int} (hE : EndsOk n E) (h : Pot n E ws s d) {i u v : Nat} (hi : i < E.length) (he : E.getD i (0, 0) = (u, v)) (hw : 0 ≤ ws.getD i 0)
    (h1 : d.getD u 0 < 1152921504606846976) (h2 : d.getD u 0 + ws.getD i 0 < d.getD v 0) (hs : s < n) : Pot n E ws s (d.set v (d.getD u 0 + ws.getD i 0)) := by
  have hu : u < n := by have := (hE i hi).1; rwa [he] at this
  have hv : v < n := by have := (hE i hi).2; rwa [he] at this
  have hvl : v < d.length := by rw [h.len]; exact hv
  have ru := h.rng u hu
  have rv := h.rng v hv
  refine ⟨by rw [List.length_set]; exact h.len, fun x hx => ?_, ?_, fun x hx hlt => ?_⟩
  · by_cases e : v = x
    · subst e; rw [getD_set_same _ _ _ hvl]; omega
    · rw [getD_set_other _ _ _ _ e]; exact h.rng x hx
  · by_cases e : v = s
    · subst e; have := h.start; omega
    · rw [getD_set_other _ _ _ _ e]; exact h.start
  · by_cases e : v = x
    · subst e; rw [getD_set_same _ _ _ hvl]
      exact .step (h.walk u hu h1) hi he hw
    · rw [getD_set_other _ _ _ _ e] at hlt ⊢; exact h.walk x hx hlt

/-- The sum of the distances: it falls with every relaxing. -/
def sumd (d : List Int) : Nat := (d.map Int.toNat).sum
theorem sumd_set (d : List Int) : ∀ (i : Nat) (x : Int), i < d.length → 0 ≤ x → x < d.getD i 0 → sumd (d.set i x) < sumd d := by
  induction d with
  | nil => intro i x h; simp at h
  | cons a d ih =>
    intro i x h h0 hx
    cases i with
    | zero => simp [sumd] at hx ⊢; omega
    | succ i =>
      have := ih i x (by simpa using h) h0 (by simpa using hx)
      simp [sumd] at this ⊢
      omega

/-- The start: 0 at s, no distance elsewhere. -/
def dist0 (n s : Nat) : List Int := (List.replicate n 1152921504606846976).set s 0
theorem Pot.zero {n s : Nat} (E : List (Nat × Nat)) (ws : List Int) (hs : s < n) : Pot n E ws s (dist0 n s) := by
  have hl : s < (List.replicate n (1152921504606846976 : Int)).length := by simpa using hs
  have hg : ∀ v, v < n → s ≠ v → (dist0 n s).getD v 0 = 1152921504606846976 := fun v hv e => by
    unfold dist0
    rw [getD_set_other _ _ _ _ e]
    simp [List.getD, hv]
  refine ⟨by simp [dist0], fun v hv => ?_, getD_set_same _ _ _ hl, fun v hv hlt => ?_⟩
  · by_cases e : s = v
    · subst e; rw [show (dist0 n s).getD s 0 = 0 from getD_set_same _ _ _ hl]; omega
    · rw [hg v hv e]; omega
  · by_cases e : s = v
    · subst e; rw [show (dist0 n s).getD s 0 = 0 from getD_set_same _ _ _ hl]; exact .nil
    · rw [hg v hv e] at hlt; omega

end Go.Proofs.Ytpfjannhggcmiaa
