/- Sweeps in a hierarchy in plain terms: the upward search and the sweep give the distances. No program is walked here. -/
import Derived.Test.YtpfjannhggcmiaaCh
import Derived.Test.YtpfjannhggcmiaaRef3
namespace Go.Proofs.Ytpfjannhggcmiaa

theorem walk_swap {E : List (Nat × Nat)} {ws : List Int} {u v : Nat} {c : Int} (h : Walk E ws u v c) : Walk (swapE E) ws v u c := by
  induction h with
  | nil => exact .nil
  | @step x y c i _ hi he hw ih =>
    have h1 : Walk (swapE E) ws y x (ws.getD i 0) := .one (by rw [swapE_length]; exact hi) (by rw [swapE_getD, he]) hw
    have := h1.trans ih
    rw [Int.add_comm] at this
    exact this
theorem swap_swap (E : List (Nat × Nat)) : swapE (swapE E) = E := by
  unfold swapE
  rw [List.map_map]
  simp [Function.comp_def]
theorem HG.swap {n : Nat} {E : List (Nat × Nat)} {order ranks : List Nat} {edges : List (Nat × Nat)} (h : HG n E order ranks edges) : HG n (swapE E) order ranks edges where
  perm := h.perm
  ends := fun i hi => by rw [swapE_length] at hi; rw [swapE_getD]; have := h.ends i hi; exact ⟨this.2, this.1⟩
  lex := h.lex
  lt := h.lt
  close := h.close
  adj := fun i hi u v he hlt => by
    rw [swapE_length] at hi
    rw [swapE_getD] at he
    refine h.adj i hi u v ?_ hlt
    rcases hpq : E.getD i (0, 0) with ⟨p, q⟩
    rw [hpq] at he
    simp at he
    rcases he with ⟨rfl, rfl⟩ | ⟨rfl, rfl⟩
    · exact .inr rfl
    · exact .inl rfl
theorem CHW.swap {n : Nat} {E : List (Nat × Nat)} {ws : List Int} {ranks : List Nat} {edges : List (Nat × Nat)} {U D : Nat → Nat → Int} (h : CHW n E ws ranks edges U D) : CHW n (swapE E) ws ranks edges D U where
  rng := fun u v hm => by have := h.rng u v hm; exact ⟨this.2.2.1, this.2.2.2, this.1, this.2.1⟩
  uarc := fun i hi h0 u v he hlt => by
    rw [swapE_length] at hi; rw [swapE_getD] at he
    refine h.darc i hi h0 u v ?_ hlt
    rcases hpq : E.getD i (0, 0) with ⟨p, q⟩
    rw [hpq] at he; simp at he; obtain ⟨rfl, rfl⟩ := he; rfl
  darc := fun i hi h0 u v he hlt => by
    rw [swapE_length] at hi; rw [swapE_getD] at he
    refine h.uarc i hi h0 u v ?_ hlt
    rcases hpq : E.getD i (0, 0) with ⟨p, q⟩
    rw [hpq] at he; simp at he; obtain ⟨rfl, rfl⟩ := he; rfl
  utri := fun x a b h1 h2 hlt f1 f2 => by have := h.dtri x a b h1 h2 hlt f2 f1; omega
  dtri := fun x a b h1 h2 hlt f1 f2 => by have := h.utri x a b h1 h2 hlt f2 f1; omega
  uwalk := fun u v hm hf => walk_swap (h.dwalk u v hm hf)
  dwalk := fun u v hm hf => walk_swap (h.uwalk u v hm hf)
  ubig := h.dbig
  dbig := h.ubig

/-! ### the upward search -/
/-- A map with one more entry; with one alone. -/
def cput (f : Nat → Option Int) (u : Nat) (c : Int) : Nat → Option Int := fun x => if x = u then some c else f x
def cone (s : Nat) (c : Int) : Nat → Option Int := fun x => if x = s then some c else none
theorem cput_same (f : Nat → Option Int) (u : Nat) (c : Int) : cput f u c u = some c := by simp [cput]
theorem cput_other (f : Nat → Option Int) (u : Nat) (c : Int) {x : Nat} (h : x ≠ u) : cput f u c x = f x := by simp [cput, h]
theorem cone_same (s : Nat) (c : Int) : cone s c s = some c := by simp [cone]
theorem cone_some {s : Nat} {c : Int} {u : Nat} {d : Int} (h : cone s c u = some d) : u = s ∧ d = c := by
  unfold cone at h
  split at h
  · rename_i e; exact ⟨e, by simpa using h.symm⟩
  · cases h
/-- What the upward search from s has found: costs, and how each was reached. -/
structure Climbed (n : Nat) (E : List (Nat × Nat)) (ws : List Int) (ranks : List Nat) (edges : List (Nat × Nat)) (U : Nat → Nat → Int) (s : Nat) (cost : Nat → Option Int) (via : Nat → Option Int) : Prop where
  start : cost s = some 0 ∧ via s = some (-1)
  walk : ∀ u c, cost u = some c → u < n ∧ 0 ≤ c ∧ c ≤ 2 ^ (30 + ranks.getD u 0) ∧ Walk E ws s u c
  above : ∀ u c, cost u = some c → ranks.getD s 0 ≤ ranks.getD u 0
/-- u was reached by an edge from a vertex of rank at most r. -/
def ByEdge (ranks : List Nat) (edges : List (Nat × Nat)) (U : Nat → Nat → Int) (cost via : Nat → Option Int) (r u : Nat) (c : Int) : Prop :=
  ∃ a e ca, (a, u) ∈ edges ∧ e = edges.idxOf (a, u) ∧ via u = some ((e : Nat) : Int) ∧ cost a = some ca ∧ U a u < INF ∧ c = ca + U a u ∧ ranks.getD a 0 ≤ r
/-- The upward search stands at v; the j first edges of v are relaxed. -/
structure ClimbAt (n : Nat) (E : List (Nat × Nat)) (ws : List Int) (ranks : List Nat) (edges : List (Nat × Nat)) (U : Nat → Nat → Int) (s v j : Nat) (l : List (Nat × Int)) (cost : Nat → Option Int) (via : Nat → Option Int) : Prop where
  cl : Climbed n E ws ranks edges U s cost via
  by_ : ∀ u c, cost u = some c → u ≠ s → ByEdge ranks edges U cost via (ranks.getD v 0) u c
  vn : v < n
  sv : ranks.getD s 0 ≤ ranks.getD v 0
  reach : ∀ u c, cost u = some c → ranks.getD v 0 ≤ ranks.getD u 0 → u = v ∨ (v, u) ∈ edges
  done : ∀ a ca, cost a = some ca → ranks.getD a 0 < ranks.getD v 0 → ∀ b, (a, b) ∈ edges → U a b < INF → ∃ cb, cost b = some cb ∧ cb ≤ ca + U a b
  part : ∀ ca, cost v = some ca → ∀ i, i < j → ∀ b, edges.getD ((upOf edges v).getD i 0) (0, 0) = (v, b) → U v b < INF → ∃ cb, cost b = some cb ∧ cb ≤ ca + U v b
  low : ∀ u c, (u, c) ∈ l → cost u = some c ∧ ranks.getD u 0 < ranks.getD v 0
  list : ∀ u c, cost u = some c → ranks.getD u 0 < ranks.getD v 0 → (u, c) ∈ l
  sorted : l.Pairwise fun p q => ranks.getD p.1 0 < ranks.getD q.1 0
/-- The whole search. -/
structure ClimbEnd (n : Nat) (E : List (Nat × Nat)) (ws : List Int) (ranks : List Nat) (edges : List (Nat × Nat)) (U : Nat → Nat → Int) (s : Nat) (l : List (Nat × Int)) (cost : Nat → Option Int) (via : Nat → Option Int) : Prop where
  cl : Climbed n E ws ranks edges U s cost via
  by_ : ∀ u c, cost u = some c → u ≠ s → ByEdge ranks edges U cost via n u c
  done : ∀ a ca, cost a = some ca → ∀ b, (a, b) ∈ edges → U a b < INF → ∃ cb, cost b = some cb ∧ cb ≤ ca + U a b
  mem : ∀ u c, (u, c) ∈ l ↔ cost u = some c
  sorted : l.Pairwise fun p q => ranks.getD p.1 0 < ranks.getD q.1 0

section
variable {n : Nat} {E : List (Nat × Nat)} {ws : List Int} {order ranks : List Nat} {edges : List (Nat × Nat)} {U D : Nat → Nat → Int} {s v j : Nat} {l : List (Nat × Int)} {cost via : Nat → Option Int}

theorem mem_upOf {v e : Nat} : e ∈ upOf edges v ↔ e < edges.length ∧ (edges.getD e (0, 0)).1 = v := by
  unfold upOf; simp
theorem HG.rank_inj (h : HG n E order ranks edges) {u v : Nat} (hu : u < n) (hv : v < n) (e : ranks.getD u 0 = ranks.getD v 0) : u = v := by
  rw [← h.perm.or u hu, ← h.perm.or v hv, e]

theorem ClimbAt.start (h : HG n E order ranks edges) (hs : s < n) : ClimbAt n E ws ranks edges U s s 0 [] (cone s 0) (cone s (-1)) where
  cl := {
    start := ⟨cone_same _ _, cone_same _ _⟩
    walk := fun u c hc => by
      obtain ⟨rfl, rfl⟩ := cone_some hc
      exact ⟨hs, Int.le_refl _, Int.le_of_lt (Int.pow_pos (by omega)), .nil⟩
    above := fun u c hc => by
      obtain ⟨rfl, rfl⟩ := cone_some hc
      exact Nat.le_refl _ }
  by_ := fun u c hc hne => absurd (cone_some hc).1 hne
  vn := hs
  sv := Nat.le_refl _
  reach := fun u c hc _ => .inl (cone_some hc).1
  done := fun a ca hc hlt => by obtain ⟨rfl, rfl⟩ := cone_some hc; omega
  part := fun ca _ i hi => by omega
  low := fun u c h => by cases h
  list := fun u c hc hlt => by obtain ⟨rfl, rfl⟩ := cone_some hc; omega
  sorted := .nil

/-- One edge, not relaxed: infinite, or no shorter. -/
theorem ClimbAt.skip (h : ClimbAt n E ws ranks edges U s v j l cost via) (u : Nat) (he : edges.getD ((upOf edges v).getD j 0) (0, 0) = (v, u)) (hno : ¬ U v u < INF ∨ ∃ cv cu, cost v = some cv ∧ cost u = some cu ∧ cu ≤ cv + U v u) : ClimbAt n E ws ranks edges U s v (j + 1) l cost via :=
  { h with
    part := fun ca hca i hi b hb hf => by
      by_cases e : i = j
      · subst e
        rw [he] at hb
        cases hb
        rcases hno with hno | ⟨cv, cu, h1, h2, h3⟩
        · exact absurd hf hno
        · rw [hca] at h1; cases h1
          exact ⟨cu, h2, h3⟩
      · exact h.part ca hca i (by omega) b hb hf }

/-- One edge, relaxed. -/
theorem ClimbAt.relax (hg : HG n E order ranks edges) (hw : CHW n E ws ranks edges U D) (h : ClimbAt n E ws ranks edges U s v j l cost via) (u e : Nat) (hj : j < (upOf edges v).length) (hee : (upOf edges v).getD j 0 = e) (he : edges.getD e (0, 0) = (v, u)) (cv : Int) (hcv : cost v = some cv) (hf : U v u < INF)
    (hlt : ∀ cu, cost u = some cu → cv + U v u < cu) :
    ClimbAt n E ws ranks edges U s v (j + 1) l (cput cost u (cv + U v u)) (cput via u ((e : Nat) : Int)) := by
  have hel : e < edges.length := by have := getD_mem2 (d := 0) hj; rw [hee] at this; exact (mem_upOf.1 this).1
  have hm : (v, u) ∈ edges := by have := edge_mem hel; rw [he] at this; exact this
  have hvu := hg.lt _ _ hm
  have hidx : e = edges.idxOf (v, u) := by rw [← he]; exact (hg.idx hel).symm
  have hne : v ≠ u := by rintro rfl; omega
  have hsu : u ≠ s := by rintro rfl; have := h.sv; omega
  have hv := h.cl.walk v cv hcv
  have hb := hw.ubig v u hm hf
  have hr := hw.rng v u hm
  have hbig : cv + U v u ≤ 2 ^ (30 + ranks.getD u 0) := by
    have := pow_le (j := ranks.getD v 0 + 1) (k := ranks.getD u 0) (by omega)
    rw [pow_half] at this
    omega
  have old : ∀ x, x ≠ u → cput cost u (cv + U v u) x = cost x := fun x hx => cput_other _ _ _ hx
  have new : cput cost u (cv + U v u) u = some (cv + U v u) := cput_same _ _ _
  have lower : ∀ x c, cost x = some c → ∃ c', cput cost u (cv + U v u) x = some c' ∧ c' ≤ c := fun x c hc => by
    by_cases e : x = u
    · subst e; exact ⟨_, new, by have := hlt c hc; omega⟩
    · exact ⟨c, by rw [old x e]; exact hc, Int.le_refl _⟩
  refine { cl := { start := ?_, walk := ?_, above := ?_ }, by_ := ?_, vn := h.vn, sv := h.sv, reach := ?_, done := ?_, part := ?_, low := ?_, list := ?_, sorted := h.sorted }
  · have hsu' : ¬ s = u := fun e => hsu e.symm
    exact ⟨by rw [old s hsu']; exact h.cl.start.1, by rw [cput_other _ _ _ hsu']; exact h.cl.start.2⟩
  · intro x c hc
    by_cases e : x = u
    · subst e
      rw [new] at hc
      cases hc
      exact ⟨hvu.2.1, by omega, hbig, hv.2.2.2.trans (hw.uwalk v _ hm hf)⟩
    · rw [old x e] at hc
      exact h.cl.walk x c hc
  · intro x c hc
    by_cases e : x = u
    · subst e
      have := h.sv; omega
    · rw [old x e] at hc
      exact h.cl.above x c hc
  · intro x c hc hxs
    by_cases e : x = u
    · subst e
      rw [new] at hc
      cases hc
      exact ⟨v, _, cv, hm, hidx, cput_same _ _ _, by rw [old v hne]; exact hcv, hf, rfl, Nat.le_refl _⟩
    · rw [old x e] at hc
      obtain ⟨a, e', ca, h1, h2, h3, h4, h5, h6, h7⟩ := h.by_ x c hc hxs
      exact ⟨a, e', ca, h1, h2, by rw [cput_other _ _ _ e]; exact h3, by rw [old a (by rintro rfl; omega)]; exact h4, h5, h6, h7⟩
  · intro x c hc hle
    by_cases e : x = u
    · subst e; exact .inr hm
    · rw [old x e] at hc
      exact h.reach x c hc hle
  · intro a ca hc hlt' b hab hfb
    have ea : a ≠ u := by rintro rfl; omega
    rw [old a ea] at hc
    obtain ⟨cb, h1, h2⟩ := h.done a ca hc hlt' b hab hfb
    obtain ⟨c', h3, h4⟩ := lower b cb h1
    exact ⟨c', h3, by omega⟩
  · intro ca hca i hi b hb' hfb
    rw [old v hne] at hca
    by_cases e : i = j
    · subst e
      rw [hee, he] at hb'
      cases hb'
      rw [hcv] at hca; cases hca
      exact ⟨_, new, Int.le_refl _⟩
    · obtain ⟨cb, h1, h2⟩ := h.part ca hca i (by omega) b hb' hfb
      obtain ⟨c', h3, h4⟩ := lower b cb h1
      exact ⟨c', h3, by omega⟩
  · intro x c hx
    have := h.low x c hx
    have ex : x ≠ u := by rintro rfl; omega
    rw [old x ex]
    exact this
  · intro x c hc hlt'
    have ex : x ≠ u := by rintro rfl; omega
    rw [old x ex] at hc
    exact h.list x c hc hlt'

theorem HG.first (h : HG n E order ranks edges) {v u : Nat} (hm : (v, u) ∈ edges) : ∃ p, edges.getD ((upOf edges v).getD 0 0) (0, 0) = (v, p) ∧ (v, p) ∈ edges ∧ ranks.getD p 0 ≤ ranks.getD u 0 ∧ 0 < (upOf edges v).length := by
  have h1 := idx_lt hm
  have h2 : edges.idxOf (v, u) ∈ upOf edges v := mem_upOf.2 ⟨h1, by rw [idx_get hm]⟩
  have h0 : 0 < (upOf edges v).length := List.length_pos_of_mem h2
  have h3 := getD_mem2 (d := 0) h0
  obtain ⟨h4, h5⟩ := mem_upOf.1 h3
  have hle : (upOf edges v).getD 0 0 ≤ edges.idxOf (v, u) := by
    have hs : (upOf edges v).Pairwise (· < ·) := by unfold upOf; exact List.pairwise_lt_range.filter _
    obtain ⟨i, hi, e⟩ := List.getElem_of_mem h2
    by_cases e0 : i = 0
    · subst e0; simp [List.getD, hi, e]
    · have := List.pairwise_iff_getElem.1 hs 0 i h0 hi (by omega)
      rw [e] at this
      simp [List.getD, h0]; omega
  refine ⟨(edges.getD ((upOf edges v).getD 0 0) (0, 0)).2, Prod.ext h5 rfl, by have := edge_mem h4; rw [h5] at this; exact this, ?_, h0⟩
  rcases Nat.lt_or_eq_of_le hle with h6 | h6
  · have := List.pairwise_iff_getElem.1 h.lex _ _ h4 h1 h6
    have e1 : edges[(upOf edges v).getD 0 0] = edges.getD ((upOf edges v).getD 0 0) (0, 0) := by
      generalize (upOf edges v).getD 0 0 = k at h4
      simp [List.getD, h4]
    have e2 : edges[edges.idxOf (v, u)] = (v, u) := by simp
    rw [e1, e2] at this
    rcases this with h7 | ⟨_, h7⟩
    · rw [h5] at h7; simp only at h7; omega
    · simp only at h7; omega
  · rw [h6, idx_get hm]; exact Nat.le_refl _

/-- v has been listed, if it was reached. -/
def Listed (v : Nat) (cost : Nat → Option Int) (l l' : List (Nat × Int)) : Prop := (∃ c, cost v = some c ∧ l' = l ++ [(v, c)]) ∨ (cost v = none ∧ l' = l)
theorem Listed.mem {l' : List (Nat × Int)} (h : Listed v cost l l') (u : Nat) (c : Int) : (u, c) ∈ l' ↔ (u, c) ∈ l ∨ (u = v ∧ cost v = some c) := by
  rcases h with ⟨c', h1, rfl⟩ | ⟨h1, rfl⟩
  · rw [List.mem_append, h1]
    simp
    constructor
    · rintro (h | ⟨rfl, rfl⟩)
      · exact .inl h
      · exact .inr ⟨rfl, rfl⟩
    · rintro (h | ⟨rfl, rfl⟩)
      · exact .inl h
      · exact .inr ⟨rfl, rfl⟩
  · rw [h1]; simp
theorem ClimbAt.sorted' (h : ClimbAt n E ws ranks edges U s v j l cost via) {l' : List (Nat × Int)} (hl : Listed v cost l l') : l'.Pairwise fun p q => ranks.getD p.1 0 < ranks.getD q.1 0 := by
  rcases hl with ⟨c, _, rfl⟩ | ⟨_, rfl⟩
  · rw [List.pairwise_append]
    refine ⟨h.sorted, .cons (fun _ h => by cases h) .nil, fun p hp q hq => ?_⟩
    have : q = (v, c) := by simpa using hq
    subst this
    exact (h.low p.1 p.2 hp).2
  · exact h.sorted
/-- All edges of v are relaxed. -/
theorem ClimbAt.all (h : ClimbAt n E ws ranks edges U s v (upOf edges v).length l cost via) (ca : Int) (hc : cost v = some ca) (b : Nat) (hb : (v, b) ∈ edges) (hf : U v b < INF) : ∃ cb, cost b = some cb ∧ cb ≤ ca + U v b := by
  have h1 := idx_lt hb
  have h2 : edges.idxOf (v, b) ∈ upOf edges v := mem_upOf.2 ⟨h1, by rw [idx_get hb]⟩
  obtain ⟨i, hi, e⟩ := mem_getD2 (d := 0) h2
  exact h.part ca hc i hi b (by rw [e, idx_get hb]) hf
/-- The search goes on to the parent. -/
theorem ClimbAt.next (hg : HG n E order ranks edges) (h : ClimbAt n E ws ranks edges U s v j l cost via) (hj : j = (upOf edges v).length ∨ cost v = none) {l' : List (Nat × Int)} (hl : Listed v cost l l') (h0 : 0 < (upOf edges v).length) :
    ∃ p, edges.getD ((upOf edges v).getD 0 0) (0, 0) = (v, p) ∧ ranks.getD v 0 < ranks.getD p 0 ∧ ClimbAt n E ws ranks edges U s p 0 l' cost via := by
  have h1 := getD_mem2 (d := 0) h0
  obtain ⟨h2, h3⟩ := mem_upOf.1 h1
  have hm0 := edge_mem h2
  obtain ⟨q, hq⟩ : ∃ q, q = (edges.getD ((upOf edges v).getD 0 0) (0, 0)).2 := ⟨_, rfl⟩
  rw [h3, ← hq] at hm0
  have hpq : edges.getD ((upOf edges v).getD 0 0) (0, 0) = (v, q) := Prod.ext h3 hq.symm
  have low : ∀ u, (v, u) ∈ edges → ranks.getD q 0 ≤ ranks.getD u 0 := fun u hu => by
    obtain ⟨p, hp, _, h5, _⟩ := hg.first hu
    rw [hpq] at hp; cases hp; exact h5
  have hlt := hg.lt _ _ hm0
  have mid : ∀ a ca, cost a = some ca → ranks.getD a 0 < ranks.getD q 0 → ranks.getD v 0 ≤ ranks.getD a 0 → a = v := fun a ca hc h4 h5 => by
    rcases h.reach a ca hc h5 with h6 | h6
    · exact h6
    · have := low a h6; omega
  refine ⟨q, hpq, hlt.2.2, { cl := h.cl, by_ := ?_, vn := hlt.2.1, sv := by have := h.sv; omega, reach := ?_, done := ?_, part := fun _ _ i hi => by omega, low := ?_, list := ?_, sorted := h.sorted' hl }⟩
  · intro u c hc hu
    obtain ⟨a, e, ca, g1, g2, g3, g4, g5, g6, g7⟩ := h.by_ u c hc hu
    exact ⟨a, e, ca, g1, g2, g3, g4, g5, g6, by omega⟩
  · intro u c hc hle
    rcases h.reach u c hc (by omega) with h6 | h6
    · subst h6; omega
    · have := low u h6
      by_cases e : u = q
      · exact .inl e
      · have hu := hg.lt _ _ h6
        exact .inr (hg.close v q u hm0 h6 (by
          rcases Nat.lt_or_eq_of_le this with h7 | h7
          · exact h7
          · exact absurd (hg.rank_inj hlt.2.1 hu.2.1 h7) (fun h => e h.symm)))
  · intro a ca hc h4 b hb hf
    by_cases e : ranks.getD a 0 < ranks.getD v 0
    · exact h.done a ca hc e b hb hf
    · have := mid a ca hc h4 (by omega)
      subst this
      rcases hj with hj | hj
      · subst hj; exact h.all ca hc b hb hf
      · rw [hj] at hc; cases hc
  · intro u c hu
    rcases (hl.mem u c).1 hu with h4 | ⟨rfl, h4⟩
    · have := h.low u c h4; exact ⟨this.1, by omega⟩
    · exact ⟨h4, hlt.2.2⟩
  · intro u c hc h4
    refine (hl.mem u c).2 ?_
    by_cases e : ranks.getD u 0 < ranks.getD v 0
    · exact .inl (h.list u c hc e)
    · have := mid u c hc h4 (by omega)
      subst this
      exact .inr ⟨rfl, hc⟩
/-- The search ends at a vertex without parent. -/
theorem ClimbAt.fin (hg : HG n E order ranks edges) (h : ClimbAt n E ws ranks edges U s v j l cost via) {l' : List (Nat × Int)} (hl : Listed v cost l l') (h0 : (upOf edges v).length = 0) : ClimbEnd n E ws ranks edges U s l' cost via := by
  have none : ∀ u, (v, u) ∉ edges := fun u hu => by
    obtain ⟨p, _, _, _, h5⟩ := hg.first hu
    omega
  have top : ∀ u c, cost u = some c → ranks.getD v 0 ≤ ranks.getD u 0 → u = v := fun u c hc hle => by
    rcases h.reach u c hc hle with h6 | h6
    · exact h6
    · exact absurd h6 (none u)
  refine ⟨h.cl, ?_, ?_, ?_, h.sorted' hl⟩
  · intro u c hc hu
    obtain ⟨a, e, ca, g1, g2, g3, g4, g5, g6, g7⟩ := h.by_ u c hc hu
    exact ⟨a, e, ca, g1, g2, g3, g4, g5, g6, by have := (hg.lt _ _ g1); have := hg.perm.rlt a this.1; omega⟩
  · intro a ca hc b hb hf
    by_cases e : ranks.getD a 0 < ranks.getD v 0
    · exact h.done a ca hc e b hb hf
    · have := top a ca hc (by omega)
      subst this
      exact absurd hb (none b)
  · intro u c
    rw [hl.mem u c]
    constructor
    · rintro (h4 | ⟨rfl, h4⟩)
      · exact (h.low u c h4).1
      · exact h4
    · intro hc
      by_cases e : ranks.getD u 0 < ranks.getD v 0
      · exact .inl (h.list u c hc e)
      · have := top u c hc (by omega)
        subst this
        exact .inr ⟨rfl, hc⟩

/-! ### the sweep -/
def startD (n : Nat) (cost : Nat → Option Int) : List Int := (List.range n).map fun u => (cost u).getD INF
theorem startD_get {cost : Nat → Option Int} {u : Nat} (hu : u < n) : (startD n cost).getD u 0 = (cost u).getD INF := by unfold startD; simp [List.getD, hu]
/-- Of the vertices above v all have been swept; of v the first j edges. -/
structure SweepAt (n : Nat) (E : List (Nat × Nat)) (ws : List Int) (ranks : List Nat) (edges : List (Nat × Nat)) (D : Nat → Nat → Int) (s : Nat) (cost : Nat → Option Int) (r j : Nat) (d : List Int) : Prop where
  len : d.length = n
  rng : ∀ u, u < n → 0 ≤ d.getD u 0 ∧ d.getD u 0 ≤ INF
  walk : ∀ u, u < n → d.getD u 0 < INF → Walk E ws s u (d.getD u 0)
  le : ∀ u, u < n → d.getD u 0 ≤ (cost u).getD INF
  low : ∀ u, u < n → ranks.getD u 0 < r → d.getD u 0 = (cost u).getD INF
  from_ : ∀ u, u < n → r ≤ ranks.getD u 0 → d.getD u 0 = (cost u).getD INF ∨ ∃ x, (u, x) ∈ edges ∧ d.getD x 0 < INF ∧ D u x < INF ∧ d.getD u 0 = d.getD x 0 + D u x
  high : ∀ u x, (u, x) ∈ edges → r < ranks.getD u 0 → d.getD x 0 < INF → D u x < INF → d.getD u 0 ≤ d.getD x 0 + D u x
  part : ∀ u, u < n → ranks.getD u 0 = r → ∀ i, i < j → ∀ x, edges.getD ((upOf edges u).getD i 0) (0, 0) = (u, x) → d.getD x 0 < INF → D u x < INF → d.getD u 0 ≤ d.getD x 0 + D u x

theorem SweepAt.start (hc : ClimbEnd n E ws ranks edges U s l cost via) (hg : HG n E order ranks edges) (hn : n ≤ 29) : SweepAt n E ws ranks edges D s cost n 0 (startD n cost) where
  len := by simp [startD]
  rng := fun u hu => by
    rw [startD_get hu]
    cases h : cost u with
    | none => exact ⟨by decide, Int.le_refl _⟩
    | some c =>
      have h1 := hc.cl.walk u c h
      have h2 := pow_le (j := ranks.getD u 0) (k := 28) (by have := hg.perm.rlt u hu; omega)
      have h3 : (2 : Int) ^ (30 + 28) ≤ INF := by decide
      simp only [Option.getD_some]
      omega
  walk := fun u hu => by
    rw [startD_get hu]
    cases h : cost u with
    | none => intro h; exact absurd h (Int.lt_irrefl _)
    | some c => intro _; exact (hc.cl.walk u c h).2.2.2
  le := fun u hu => by rw [startD_get hu]; exact Int.le_refl _
  low := fun u hu _ => startD_get hu
  from_ := fun u hu _ => .inl (startD_get hu)
  high := fun u x h hr => by have := hg.perm.rlt u (hg.lt _ _ h).1; omega
  part := fun u hu hr => by have := hg.perm.rlt u hu; omega
/-- The next vertex below. -/
theorem SweepAt.down (hg : HG n E order ranks edges) {cost : Nat → Option Int} {r : Nat} {d : List Int} (h : SweepAt n E ws ranks edges D s cost (r + 1) j d) (hj : ∀ u, u < n → ranks.getD u 0 = r + 1 → j = (upOf edges u).length) : SweepAt n E ws ranks edges D s cost r 0 d where
  len := h.len
  rng := h.rng
  walk := h.walk
  le := h.le
  low := fun u hu hr => h.low u hu (by omega)
  from_ := fun u hu hr => by
    by_cases e : r + 1 ≤ ranks.getD u 0
    · exact h.from_ u hu e
    · exact .inl (h.low u hu (by omega))
  high := fun u x hm hr h1 h2 => by
    by_cases e : r + 1 < ranks.getD u 0
    · exact h.high u x hm e h1 h2
    · have hu := hg.lt _ _ hm
      have e1 : ranks.getD u 0 = r + 1 := by omega
      have h3 : edges.idxOf (u, x) ∈ upOf edges u := mem_upOf.2 ⟨idx_lt hm, by rw [idx_get hm]⟩
      obtain ⟨i, hi, e2⟩ := mem_getD2 (d := 0) h3
      exact h.part u hu.1 e1 i (by rw [hj u hu.1 e1]; exact hi) x (by rw [e2, idx_get hm]) h1 h2
  part := fun u hu hr i hi => by omega
/-- An edge of v, relaxed. -/
theorem SweepAt.relax (hg : HG n E order ranks edges) (hw : CHW n E ws ranks edges U D) {cost : Nat → Option Int} {r : Nat} {d : List Int} (h : SweepAt n E ws ranks edges D s cost r j d) {v x : Nat} (hv : v < n) (hr : ranks.getD v 0 = r)
    (he : edges.getD ((upOf edges v).getD j 0) (0, 0) = (v, x)) (hm : (v, x) ∈ edges) (hx : d.getD x 0 < INF) (hD : D v x < INF) :
    SweepAt n E ws ranks edges D s cost r (j + 1) (d.set v (Min.min (d.getD v 0) (d.getD x 0 + D v x))) := by
  have hl := hg.lt _ _ hm
  have hvd : v < d.length := by rw [h.len]; exact hv
  have hne : v ≠ x := by rintro rfl; omega
  have same : (d.set v (Min.min (d.getD v 0) (d.getD x 0 + D v x))).getD v 0 = Min.min (d.getD v 0) (d.getD x 0 + D v x) := getD_set_same _ _ _ hvd
  have other : ∀ u, u ≠ v → (d.set v (Min.min (d.getD v 0) (d.getD x 0 + D v x))).getD u 0 = d.getD u 0 := fun u hu => getD_set_other _ _ _ _ (fun e => hu e.symm)
  have rv := h.rng v hv
  have rx := h.rng x hl.2.1
  have rD := hw.rng v x hm
  have hmin : Min.min (d.getD v 0) (d.getD x 0 + D v x) ≤ d.getD v 0 := Int.min_le_left _ _
  have hmin2 : Min.min (d.getD v 0) (d.getD x 0 + D v x) ≤ d.getD x 0 + D v x := Int.min_le_right _ _
  have hcase : Min.min (d.getD v 0) (d.getD x 0 + D v x) = d.getD v 0 ∨ Min.min (d.getD v 0) (d.getD x 0 + D v x) = d.getD x 0 + D v x := by omega
  obtain ⟨mm, hmm⟩ : ∃ mm, Min.min (d.getD v 0) (d.getD x 0 + D v x) = mm := ⟨_, rfl⟩
  rw [hmm] at same other hmin hmin2 hcase ⊢
  clear hmm
  refine ⟨by rw [List.length_set]; exact h.len, ?_, ?_, ?_, ?_, ?_, ?_, ?_⟩
  · intro u hu
    by_cases e : u = v
    · subst e; rw [same]; omega
    · rw [other u e]; exact h.rng u hu
  · intro u hu
    by_cases e : u = v
    · subst e; rw [same]
      intro hf
      rcases hcase with h1 | h1
      · rw [h1] at hf ⊢; exact h.walk u hu hf
      · rw [h1]; exact (h.walk x hl.2.1 hx).trans (hw.dwalk _ x hm hD)
    · rw [other u e]; exact h.walk u hu
  · intro u hu
    by_cases e : u = v
    · subst e; rw [same]; have := h.le u hu; omega
    · rw [other u e]; exact h.le u hu
  · intro u hu hlt
    rw [other u (by rintro rfl; omega)]; exact h.low u hu hlt
  · intro u hu hle
    by_cases e : u = v
    · subst e
      rw [same]
      rcases hcase with h1 | h1
      · rcases h.from_ u hu hle with h2 | ⟨y, h2, h3, h4, h5⟩
        · exact .inl (h1.trans h2)
        · have hy := hg.lt _ _ h2
          exact .inr ⟨y, h2, by rw [other y (by rintro rfl; omega)]; exact h3, h4, by rw [other y (by rintro rfl; omega)]; exact h1.trans h5⟩
      · exact .inr ⟨x, hm, by rw [other x (Ne.symm hne)]; exact hx, hD, by rw [other x (Ne.symm hne)]; exact h1⟩
    · rw [other u e]
      rcases h.from_ u hu hle with h2 | ⟨y, h2, h3, h4, h5⟩
      · exact .inl h2
      · have hy := hg.lt _ _ h2
        have ey : y ≠ v := by rintro rfl; omega
        exact .inr ⟨y, h2, by rw [other y ey]; exact h3, h4, by rw [other y ey]; exact h5⟩
  · intro u y hm' hlt h1 h2
    have hy := hg.lt _ _ hm'
    rw [other u (by rintro rfl; omega)]
    rw [other y (by rintro rfl; omega)] at h1 ⊢
    exact h.high u y hm' hlt h1 h2
  · intro u hu hru i hi y hy h1 h2
    have e : u = v := hg.rank_inj hu hv (by omega)
    subst e
    by_cases ei : i = j
    · subst ei
      rw [he] at hy; cases hy
      rw [same, other x (Ne.symm hne)]
      exact hmin2
    · have hmy : (u, y) ∈ edges := by
        by_cases hil : (upOf edges u).getD i 0 < edges.length
        · have := edge_mem hil; rw [hy] at this; exact this
        · have : edges.getD ((upOf edges u).getD i 0) (0, 0) = (0, 0) := by simp only [List.getD_eq_getElem?_getD]; rw [List.getElem?_eq_none (by simpa using hil)]; rfl
          rw [this] at hy; cases hy
          by_cases hmz : (0, 0) ∈ edges
          · exact hmz
          · exfalso
            by_cases hjl : (upOf edges 0).getD i 0 < edges.length
            · exact hil hjl
            · by_cases hi2 : i < (upOf edges 0).length
              · exact hil (mem_upOf.1 (getD_mem2 (d := 0) hi2)).1
              · have : (upOf edges 0).getD i 0 = 0 := by simp only [List.getD_eq_getElem?_getD]; rw [List.getElem?_eq_none (by omega)]; rfl
                rw [this] at hil
                have := idx_lt hm
                omega
      have ly := hg.lt _ _ hmy
      rw [other y (by rintro rfl; omega)] at h1 ⊢
      rw [same]
      have := h.part u hu hru i (by omega) y hy h1 h2
      omega
/-- An edge of v that is not relaxed. -/
theorem SweepAt.skip (hg : HG n E order ranks edges) {cost : Nat → Option Int} {r : Nat} {d : List Int} (h : SweepAt n E ws ranks edges D s cost r j d) {v x : Nat} (hv : v < n) (hr : ranks.getD v 0 = r)
    (he : edges.getD ((upOf edges v).getD j 0) (0, 0) = (v, x)) (hno : ¬ (d.getD x 0 < INF ∧ D v x < INF)) : SweepAt n E ws ranks edges D s cost r (j + 1) d :=
  { h with
    part := fun u hu hru i hi y hy h1 h2 => by
      have e : u = v := hg.rank_inj hu hv (by omega)
      subst e
      by_cases ei : i = j
      · subst ei
        rw [he] at hy; cases hy
        exact absurd ⟨h1, h2⟩ hno
      · exact h.part u hu hru i (by omega) y hy h1 h2 }
/-- No arc shortens a distance that a sweep has left. -/
theorem SweepAt.up (hg : HG n E order ranks edges) (hw : CHW n E ws ranks edges U D) (hc : ClimbEnd n E ws ranks edges U s l cost via) {d : List Int} (h : SweepAt n E ws ranks edges D s cost 0 j d) (hj : ∀ u, u < n → ranks.getD u 0 = 0 → j = (upOf edges u).length) :
    ∀ (m a : Nat), n - ranks.getD a 0 = m → ∀ b, (a, b) ∈ edges → U a b < INF → d.getD a 0 < INF → d.getD b 0 ≤ d.getD a 0 + U a b := by
  have high : ∀ u x, (u, x) ∈ edges → d.getD x 0 < INF → D u x < INF → d.getD u 0 ≤ d.getD x 0 + D u x := fun u x hm h1 h2 => by
    by_cases e : 0 < ranks.getD u 0
    · exact h.high u x hm e h1 h2
    · have hu := hg.lt _ _ hm
      have h3 : edges.idxOf (u, x) ∈ upOf edges u := mem_upOf.2 ⟨idx_lt hm, by rw [idx_get hm]⟩
      obtain ⟨i, hi, e2⟩ := mem_getD2 (d := 0) h3
      exact h.part u hu.1 (by omega) i (by rw [hj u hu.1 (by omega)]; exact hi) x (by rw [e2, idx_get hm]) h1 h2
  intro m
  induction m using Nat.strongRecOn with
  | _ m ih =>
    intro a hm b hab hU ha
    have la := hg.lt _ _ hab
    have rb := h.rng b la.2.1
    have rU := hw.rng a b hab
    rcases h.from_ a la.1 (Nat.zero_le _) with h1 | ⟨x, h1, h2, h3, h4⟩
    · rw [h1] at ha ⊢
      cases hca : cost a with
      | none => rw [hca] at ha; exact absurd ha (Int.lt_irrefl _)
      | some ca =>
        obtain ⟨cb, h5, h6⟩ := hc.done a ca hca b hab hU
        have := h.le b la.2.1
        rw [h5] at this
        simp only [Option.getD_some] at this ⊢
        omega
    · have lx := hg.lt _ _ h1
      have rx := h.rng x lx.2.1
      have rD := hw.rng a x h1
      by_cases e : x = b
      · subst e; omega
      · have hra := hg.perm.rlt a la.1
        by_cases hxb : ranks.getD x 0 < ranks.getD b 0
        · have hm1 := hg.close a x b h1 hab hxb
          have ht := hw.utri a x b h1 hab hxb h3 hU
          have rUx := hw.rng x b hm1
          by_cases hUx : U x b < INF
          · have := ih (n - ranks.getD x 0) (by omega) x rfl b hm1 hUx h2
            omega
          · omega
        · have hbx : ranks.getD b 0 < ranks.getD x 0 := by
            rcases Nat.lt_trichotomy (ranks.getD x 0) (ranks.getD b 0) with h5 | h5 | h5
            · exact absurd h5 hxb
            · exact absurd (hg.rank_inj lx.2.1 la.2.1 h5) e
            · exact h5
          have hm1 := hg.close a b x hab h1 hbx
          have ht := hw.dtri a b x hab h1 hbx h3 hU
          have rDx := hw.rng b x hm1
          by_cases hDx : D b x < INF
          · have := high b x hm1 h2 hDx
            omega
          · omega
theorem SweepAt.dist (hg : HG n E order ranks edges) (hw : CHW n E ws ranks edges U D) (hc : ClimbEnd n E ws ranks edges U s l cost via) {d : List Int} (h : SweepAt n E ws ranks edges D s cost 0 j d) (hj : ∀ u, u < n → ranks.getD u 0 = 0 → j = (upOf edges u).length) (hs : s < n) : IsDist n E ws s d := by
  have high : ∀ u x, (u, x) ∈ edges → d.getD x 0 < INF → D u x < INF → d.getD u 0 ≤ d.getD x 0 + D u x := fun u x hm h1 h2 => by
    by_cases e : 0 < ranks.getD u 0
    · exact h.high u x hm e h1 h2
    · have hu := hg.lt _ _ hm
      have h3 : edges.idxOf (u, x) ∈ upOf edges u := mem_upOf.2 ⟨idx_lt hm, by rw [idx_get hm]⟩
      obtain ⟨i, hi, e2⟩ := mem_getD2 (d := 0) h3
      exact h.part u hu.1 (by omega) i (by rw [hj u hu.1 (by omega)]; exact hi) x (by rw [e2, idx_get hm]) h1 h2
  have hI : INF = 1152921504606846976 := rfl
  refine isDist_of hg.ends hs ⟨h.len, fun v hv => h.rng v hv, ?_, fun v hv hf => h.walk v hv hf⟩ ?_
  · have h1 := h.le s hs
    rw [hc.cl.start.1] at h1
    have := h.rng s hs
    simp only [Option.getD_some] at h1
    omega
  · intro i hi h0 hf
    rcases huv : E.getD i (0, 0) with ⟨u, v⟩
    rw [huv] at hf
    have hb := hg.ends i hi
    rw [huv] at hb
    simp only at hf hb ⊢
    rcases Nat.lt_trichotomy (ranks.getD u 0) (ranks.getD v 0) with h1 | h1 | h1
    · have hm := hg.adj i hi u v (.inl huv) h1
      have h2 := hw.uarc i hi h0 u v huv h1
      have rv := h.rng v hb.2
      have rU := hw.rng u v hm
      by_cases e : U u v < INF
      · have := h.up hg hw hc hj _ u rfl v hm e hf
        omega
      · have ru := h.rng u hb.1
        omega
    · have : u = v := hg.rank_inj hb.1 hb.2 h1
      subst this; omega
    · have hm := hg.adj i hi v u (.inr huv) h1
      have h2 := hw.darc i hi h0 v u huv h1
      have rv := h.rng v hb.2
      have rU := hw.rng v u hm
      by_cases e : D v u < INF
      · have := high v u hm hf e
        omega
      · have ru := h.rng u hb.1
        omega
end

end Go.Proofs.Ytpfjannhggcmiaa
