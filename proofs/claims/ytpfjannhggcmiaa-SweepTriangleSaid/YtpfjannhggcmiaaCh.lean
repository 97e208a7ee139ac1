/- Contraction hierarchies in plain terms: from the weights of the edges to distances. No program is walked here. -/
import Derived.Test.YtpfjannhggcmiaaWt
namespace Go.Proofs.Ytpfjannhggcmiaa

/-- A hierarchy as its edges: sorted, closed, over all arcs. -/
structure HG (n : Nat) (E : List (Nat × Nat)) (order ranks : List Nat) (edges : List (Nat × Nat)) : Prop where
  perm : PermN n order ranks
  ends : EndsOk n E
  lex : edges.Pairwise fun p q => ranks.getD p.1 0 < ranks.getD q.1 0 ∨ (p.1 = q.1 ∧ ranks.getD p.2 0 < ranks.getD q.2 0)
  lt : ∀ u v, (u, v) ∈ edges → u < n ∧ v < n ∧ ranks.getD u 0 < ranks.getD v 0
  close : ∀ x a b, (x, a) ∈ edges → (x, b) ∈ edges → ranks.getD a 0 < ranks.getD b 0 → (a, b) ∈ edges
  adj : ∀ i, i < E.length → ∀ u v, (E.getD i (0, 0) = (u, v) ∨ E.getD i (0, 0) = (v, u)) → ranks.getD u 0 < ranks.getD v 0 → (u, v) ∈ edges

theorem HG.of {n : Nat} {E : List (Nat × Nat)} {order ranks : List Nat} {rows : List (List Nat)} (hp : PermN n order ranks) (he : Elim n E order rows) (hE : EndsOk n E) : HG n E order ranks (edgesOf order rows) where
  perm := hp
  ends := hE
  lex := by
    unfold edgesOf
    rw [List.pairwise_flatMap]
    constructor
    · intro a ha
      have ha' : a < n := by have := List.mem_range.1 ha; rw [he.len] at this; exact this
      unfold rowE
      rw [List.pairwise_map]
      refine (he.sorted a ha').imp_of_mem ?_
      intro s t hs ht hst
      have h1 := he.rng a ha' s hs
      have h2 := he.rng a ha' t ht
      exact .inr ⟨rfl, by simp only [hp.ro s h1.2, hp.ro t h2.2]; exact hst⟩
    · refine List.pairwise_lt_range.imp_of_mem ?_
      intro a b ha hb hab p hp1 q hq1
      have ha' : a < n := by have := List.mem_range.1 ha; rw [he.len] at this; exact this
      have hb' : b < n := by have := List.mem_range.1 hb; rw [he.len] at this; exact this
      unfold rowE at hp1 hq1
      obtain ⟨s, hs, rfl⟩ := List.mem_map.1 hp1
      obtain ⟨t, ht, rfl⟩ := List.mem_map.1 hq1
      exact .inl (by simp only [hp.ro a ha', hp.ro b hb']; exact hab)
  lt := fun u v h => by
    obtain ⟨a, s, ha, hs, e⟩ := mem_edgesOf.1 h
    rw [he.len] at ha
    have h1 := he.rng a ha s hs
    cases e
    exact ⟨hp.olt a ha, hp.olt s h1.2, by rw [hp.ro a ha, hp.ro s h1.2]; exact h1.1⟩
  close := fun x a b h1 h2 hab => by
    obtain ⟨r, s, hr, hs, e1⟩ := mem_edgesOf.1 h1
    obtain ⟨r', t, hr', ht, e2⟩ := mem_edgesOf.1 h2
    rw [he.len] at hr hr'
    have g1 := he.rng r hr s hs
    have g2 := he.rng r' hr' t ht
    obtain ⟨ex, ea⟩ : x = order.getD r 0 ∧ a = order.getD s 0 := by simpa using e1
    obtain ⟨ex', eb⟩ : x = order.getD r' 0 ∧ b = order.getD t 0 := by simpa using e2
    have err : r = r' := by rw [← hp.ro r hr, ← hp.ro r' hr', ← ex, ← ex']
    subst err
    rw [ea, eb, hp.ro s g1.2, hp.ro t g2.2] at hab
    have := he.close _ r rfl hr s t hs ht hab
    exact mem_edgesOf.2 ⟨s, t, by rw [he.len]; exact g1.2, this, by rw [ea, eb]⟩
  adj := fun i hi u v h hlt => by
    have hb := hE i hi
    have hu : u < n := by rcases h with h | h <;> rw [h] at hb <;> simp at hb <;> omega
    have hv : v < n := by rcases h with h | h <;> rw [h] at hb <;> simp at hb <;> omega
    have := he.adj (ranks.getD u 0) (hp.rlt u hu) (ranks.getD v 0) hlt (hp.rlt v hv) (by
      rw [hp.or u hu, hp.or v hv]
      refine ⟨fun e => by subst e; omega, i, hi, ?_⟩
      exact h)
    exact mem_edgesOf.2 ⟨_, _, by rw [he.len]; exact hp.rlt u hu, this, by rw [hp.or u hu, hp.or v hv]⟩

section
variable {n : Nat} {E : List (Nat × Nat)} {order ranks : List Nat} {edges : List (Nat × Nat)}
theorem HG.nodup (h : HG n E order ranks edges) : edges.Nodup := by
  refine h.lex.imp ?_
  rintro p q (h1 | ⟨_, h1⟩) e
  · subst e; omega
  · subst e; omega
theorem HG.idx (h : HG n E order ranks edges) {e : Nat} (he : e < edges.length) : edges.idxOf (edges.getD e (0, 0)) = e := by
  have : edges.getD e (0, 0) = edges[e] := by simp [List.getD, he]
  rw [this]
  exact h.nodup.idxOf_getElem e he
theorem idx_lt {p : Nat × Nat} (hp : p ∈ edges) : edges.idxOf p < edges.length := List.idxOf_lt_length_iff.2 hp
theorem idx_get {p : Nat × Nat} (hp : p ∈ edges) : edges.getD (edges.idxOf p) (0, 0) = p := by
  have := idx_lt hp
  simp [List.getD, this]
theorem edge_mem {e : Nat} (he : e < edges.length) : ((edges.getD e (0, 0)).1, (edges.getD e (0, 0)).2) ∈ edges := by
  have : edges.getD e (0, 0) = edges[e] := by simp [List.getD, he]
  rw [this]; exact List.getElem_mem he
/-- Edges of lower ends come first. -/
theorem HG.before (h : HG n E order ranks edges) {p q : Nat × Nat} (hp : p ∈ edges) (hq : q ∈ edges) (hlt : ranks.getD p.1 0 < ranks.getD q.1 0) : edges.idxOf p < edges.idxOf q := by
  have h1 := idx_lt hp
  have h2 := idx_lt hq
  rcases Nat.lt_trichotomy (edges.idxOf p) (edges.idxOf q) with h3 | h3 | h3
  · exact h3
  · have e1 := idx_get hp
    have e2 := idx_get hq
    rw [h3, e2] at e1
    subst e1; omega
  · have := List.pairwise_iff_getElem.1 h.lex _ _ h2 h1 h3
    have e1 : edges[edges.idxOf p] = p := by simp
    have e2 : edges[edges.idxOf q] = q := by simp
    rw [e1, e2] at this
    rcases this with h4 | ⟨h4, _⟩
    · omega
    · rw [h4] at hlt; omega

/-- Finding an edge. -/
theorem find_hd (h : HG n E order ranks edges) (u v : Nat) : (hdOf n E order ranks edges).find u v = if ranks.getD v 0 < ranks.getD u 0 then numOf edges v u else numOf edges u v := rfl
theorem numOf_some {u v e : Nat} (h : numOf edges u v = some e) : (u, v) ∈ edges ∧ e = edges.idxOf (u, v) := by
  unfold numOf at h
  split at h
  · rename_i hm; exact ⟨hm, by simpa using h.symm⟩
  · cases h
theorem numOf_mem {u v : Nat} (h : (u, v) ∈ edges) : numOf edges u v = some (edges.idxOf (u, v)) := by unfold numOf; rw [if_pos h]
theorem numOf_isSome {u v : Nat} : (numOf edges u v).isSome = true ↔ (u, v) ∈ edges := by
  unfold numOf
  split <;> simp_all
theorem mem_lower (h : HG n E order ranks edges) {e x : Nat} (he : e < edges.length) : x ∈ (hdOf n E order ranks edges).lower e ↔ (x, (edges.getD e (0, 0)).1) ∈ edges ∧ (x, (edges.getD e (0, 0)).2) ∈ edges := by
  have hm := edge_mem he
  have hl := h.lt _ _ hm
  unfold HD.lower
  rw [List.mem_filter]
  show x ∈ ((List.range n).map (downOf edges)).getD (edges.getD e (0, 0)).1 [] ∧ (numOf edges x (edges.getD e (0, 0)).2).isSome = true ↔ _
  rw [down_getD edges _ hl.1, numOf_isSome]
  refine and_congr_left fun _ => ?_
  unfold downOf
  rw [List.mem_map]
  constructor
  · rintro ⟨p, hp, rfl⟩
    obtain ⟨hp1, hp2⟩ := List.mem_filter.1 hp
    have : p.2 = (edges.getD e (0, 0)).1 := by simpa using hp2
    rw [← this]; exact hp1
  · intro hx
    exact ⟨(x, (edges.getD e (0, 0)).1), List.mem_filter.2 ⟨hx, by simp⟩, rfl⟩
end

/-! ### the weights -/
/-- The arcs of each edge. -/
def arcsOf (D : HD) : List (List Nat) := (List.range D.edges.length).map fun e => (List.range D.arcs.length).filter fun i => decide (D.find (D.arcs.getD i (0, 0)).1 (D.arcs.getD i (0, 0)).2 = some e)
theorem arcsOf_getD (D : HD) {e : Nat} (he : e < D.edges.length) : (arcsOf D).getD e [] = (List.range D.arcs.length).filter fun i => decide (D.find (D.arcs.getD i (0, 0)).1 (D.arcs.getD i (0, 0)).2 = some e) := by
  unfold arcsOf; rw [List.getD_eq_getElem?_getD, List.getElem?_map, List.getElem?_range he]; rfl
theorem mem_arcsOf {D : HD} {e i : Nat} (he : e < D.edges.length) : i ∈ (arcsOf D).getD e [] ↔ i < D.arcs.length ∧ D.find (D.arcs.getD i (0, 0)).1 (D.arcs.getD i (0, 0)).2 = some e := by
  rw [arcsOf_getD D he]; simp
/-- The weights of the edges are the least ones. -/
structure Good (n : Nat) (E : List (Nat × Nat)) (ws : List Int) (order ranks : List Nat) (edges : List (Nat × Nat)) (M : MD) : Prop where
  hg : HG n E order ranks edges
  h_eq : M.h = hdOf n E order ranks edges
  w_eq : M.w = ws
  a_eq : M.arcs = arcsOf (hdOf n E order ranks edges)
  wok : ∀ i, i < E.length → ws.getD i 0 ≤ 1073741824
  least : ∀ e, e < edges.length → Least (upC M e) (M.up.getD e 0) ∧ Least (downC M e) (M.down.getD e 0)

def wUp (edges : List (Nat × Nat)) (M : MD) (u v : Nat) : Int := M.up.getD (edges.idxOf (u, v)) 0
def wDown (edges : List (Nat × Nat)) (M : MD) (u v : Nat) : Int := M.down.getD (edges.idxOf (u, v)) 0

theorem over_lt {a b : Int} (h : over a b < INF) : a ≠ INF ∧ b ≠ INF ∧ over a b = a + b := by
  unfold over at *
  split at h
  · omega
  · rename_i hn
    rw [if_neg hn]
    exact ⟨fun e => hn (.inl e), fun e => hn (.inr e), rfl⟩
theorem over_fin {a b : Int} (ha : a ≠ INF) (hb : b ≠ INF) : over a b = a + b := by
  unfold over; rw [if_neg (by simp [ha, hb])]

/-- What is used of the weights: bounds, arcs, triangles, walks. -/
structure CHW (n : Nat) (E : List (Nat × Nat)) (ws : List Int) (ranks : List Nat) (edges : List (Nat × Nat)) (U D : Nat → Nat → Int) : Prop where
  rng : ∀ u v, (u, v) ∈ edges → 0 ≤ U u v ∧ U u v ≤ INF ∧ 0 ≤ D u v ∧ D u v ≤ INF
  uarc : ∀ i, i < E.length → 0 ≤ ws.getD i 0 → ∀ u v, E.getD i (0, 0) = (u, v) → ranks.getD u 0 < ranks.getD v 0 → U u v ≤ ws.getD i 0
  darc : ∀ i, i < E.length → 0 ≤ ws.getD i 0 → ∀ u v, E.getD i (0, 0) = (v, u) → ranks.getD u 0 < ranks.getD v 0 → D u v ≤ ws.getD i 0
  utri : ∀ x a b, (x, a) ∈ edges → (x, b) ∈ edges → ranks.getD a 0 < ranks.getD b 0 → D x a < INF → U x b < INF → U a b ≤ D x a + U x b
  dtri : ∀ x a b, (x, a) ∈ edges → (x, b) ∈ edges → ranks.getD a 0 < ranks.getD b 0 → D x b < INF → U x a < INF → D a b ≤ D x b + U x a
  uwalk : ∀ u v, (u, v) ∈ edges → U u v < INF → Walk E ws u v (U u v)
  dwalk : ∀ u v, (u, v) ∈ edges → D u v < INF → Walk E ws v u (D u v)
  ubig : ∀ u v, (u, v) ∈ edges → U u v < INF → U u v ≤ 2 ^ (30 + ranks.getD u 0)
  dbig : ∀ u v, (u, v) ∈ edges → D u v < INF → D u v ≤ 2 ^ (30 + ranks.getD u 0)

section
variable {n : Nat} {E : List (Nat × Nat)} {ws : List Int} {order ranks : List Nat} {edges : List (Nat × Nat)} {M : MD}

theorem Good.edA (G : Good n E ws order ranks edges M) {x a b : Nat} (hab : (a, b) ∈ edges) (hxa : (x, a) ∈ edges) : edA M (edges.idxOf (a, b)) x = edges.idxOf (x, a) := by
  unfold Go.Proofs.Ytpfjannhggcmiaa.edA
  rw [G.h_eq]
  show ((hdOf n E order ranks edges).find x ((edges.getD (edges.idxOf (a, b)) (0, 0))).1).getD 0 = _
  rw [idx_get hab, find_hd G.hg, if_neg (by have := (G.hg.lt _ _ hxa).2.2; simp only; omega), numOf_mem hxa]
  rfl
theorem Good.edB (G : Good n E ws order ranks edges M) {x a b : Nat} (hab : (a, b) ∈ edges) (hxb : (x, b) ∈ edges) : edB M (edges.idxOf (a, b)) x = edges.idxOf (x, b) := by
  unfold Go.Proofs.Ytpfjannhggcmiaa.edB
  rw [G.h_eq]
  show ((hdOf n E order ranks edges).find x ((edges.getD (edges.idxOf (a, b)) (0, 0))).2).getD 0 = _
  rw [idx_get hab, find_hd G.hg, if_neg (by have := (G.hg.lt _ _ hxb).2.2; simp only; omega), numOf_mem hxb]
  rfl
theorem Good.lower (G : Good n E ws order ranks edges M) {a b x : Nat} (hab : (a, b) ∈ edges) : x ∈ M.h.lower (edges.idxOf (a, b)) ↔ (x, a) ∈ edges ∧ (x, b) ∈ edges := by
  rw [G.h_eq, mem_lower G.hg (idx_lt hab), idx_get hab]
theorem mem_getD2 {α : Type} {L : List α} {x d : α} (h : x ∈ L) : ∃ j, j < L.length ∧ L.getD j d = x := by
  obtain ⟨j, hj, e⟩ := List.getElem_of_mem h
  exact ⟨j, hj, by simp [List.getD, hj, e]⟩
theorem getD_mem2 {α : Type} {L : List α} {j : Nat} {d : α} (h : j < L.length) : L.getD j d ∈ L := by
  simp [List.getD, h]

/-- An arc of an edge. -/
theorem Good.arc (G : Good n E ws order ranks edges M) {a b i : Nat} (hab : (a, b) ∈ edges) : i ∈ M.arcs.getD (edges.idxOf (a, b)) [] ↔ i < E.length ∧ (E.getD i (0, 0) = (a, b) ∨ E.getD i (0, 0) = (b, a)) := by
  have hlt := G.hg.lt _ _ hab
  rw [G.a_eq]
  refine (mem_arcsOf (D := hdOf n E order ranks edges) (idx_lt hab)).trans ?_
  show i < E.length ∧ (hdOf n E order ranks edges).find (E.getD i (0, 0)).1 (E.getD i (0, 0)).2 = some (edges.idxOf (a, b)) ↔ _
  refine and_congr_right fun hi => ?_
  rw [find_hd G.hg]
  rcases hpq : E.getD i (0, 0) with ⟨p, q⟩
  constructor
  · intro h
    split at h
    · obtain ⟨h1, h2⟩ := numOf_some h
      have := congrArg (fun e => edges.getD e (0, 0)) h2
      simp only [idx_get hab, idx_get h1] at this
      cases this
      exact .inr rfl
    · obtain ⟨h1, h2⟩ := numOf_some h
      have := congrArg (fun e => edges.getD e (0, 0)) h2
      simp only [idx_get hab, idx_get h1] at this
      cases this
      exact .inl rfl
  · rintro (h | h)
    · cases h
      rw [if_neg (by simp only; omega)]
      exact numOf_mem hab
    · cases h
      rw [if_pos (by simp only; omega)]
      exact numOf_mem hab

theorem pow_half (k : Nat) : (2 : Int) ^ (30 + (k + 1)) = 2 ^ (30 + k) + 2 ^ (30 + k) := by
  rw [show 30 + (k + 1) = (30 + k) + 1 by omega, Int.pow_succ]; omega
theorem pow_le {j k : Nat} (h : j ≤ k) : (2 : Int) ^ (30 + j) ≤ 2 ^ (30 + k) := by
  induction k with
  | zero => obtain rfl : j = 0 := by omega
            exact Int.le_refl _
  | succ k ih =>
    by_cases e : j = k + 1
    · subst e; exact Int.le_refl _
    · have := ih (by omega)
      rw [pow_half]
      have : (0 : Int) ≤ 2 ^ (30 + k) := Int.le_of_lt (Int.pow_pos (by omega))
      omega

/-- A finite weight is that of a walk, and not too large. -/
theorem Good.walks (G : Good n E ws order ranks edges M) : ∀ (m a b : Nat), ranks.getD a 0 = m → (a, b) ∈ edges →
    (wUp edges M a b < INF → Walk E ws a b (wUp edges M a b) ∧ wUp edges M a b ≤ 2 ^ (30 + ranks.getD a 0)) ∧ (wDown edges M a b < INF → Walk E ws b a (wDown edges M a b) ∧ wDown edges M a b ≤ 2 ^ (30 + ranks.getD a 0)) := by
  intro m
  induction m using Nat.strongRecOn with
  | _ m ih =>
    intro a b hm hab
    have hi := idx_lt hab
    have hL := G.least _ hi
    have hlt := G.hg.lt _ _ hab
    have hEn : M.h.edges.getD (edges.idxOf (a, b)) (0, 0) = (a, b) := by rw [G.h_eq]; exact idx_get hab
    have hAr : M.h.arcs = E := by rw [G.h_eq]; rfl
    have one : ∀ x : Int, x ≤ 1073741824 → x ≤ 2 ^ (30 + ranks.getD a 0) := fun x hx => by
      have := pow_le (j := 0) (k := ranks.getD a 0) (by omega)
      have e : (2 : Int) ^ (30 + 0) = 1073741824 := by decide
      omega
    have two : ∀ x, (x, a) ∈ edges → ∀ p q : Int, p ≤ 2 ^ (30 + ranks.getD x 0) → q ≤ 2 ^ (30 + ranks.getD x 0) → p + q ≤ 2 ^ (30 + ranks.getD a 0) := fun x hx p q hp hq => by
      have h1 := (G.hg.lt _ _ hx).2.2
      have h2 := pow_le (j := ranks.getD x 0 + 1) (k := ranks.getD a 0) (by omega)
      rw [pow_half] at h2
      omega
    constructor
    · intro hf
      rcases hL.1.att hf with ⟨j, hj, h0, h1, hx⟩ | ⟨j, hj, hx⟩
      · have hmem := getD_mem2 (d := 0) hj
        rw [G.arc hab] at hmem
        obtain ⟨h2, h3⟩ := hmem
        rw [hAr, hEn] at h1
        rw [G.w_eq] at h0 hx
        have h4 : E.getD ((M.arcs.getD (edges.idxOf (a, b)) []).getD j 0) (0, 0) = (a, b) := by
          rcases h3 with h3 | h3
          · exact h3
          · rw [h3] at h1
            simp only at h1
            subst h1; omega
        unfold wUp
        rw [hx]
        exact ⟨.one h2 h4 h0, one _ (G.wok _ h2)⟩
      · have hmem := getD_mem2 (d := 0) hj
        rw [G.lower hab] at hmem
        obtain ⟨h2, h3⟩ := hmem
        rw [G.edA hab h2, G.edB hab h3] at hx
        have hf' := hf
        unfold wUp at hf'
        rw [hx] at hf'
        obtain ⟨o1, o2, o3⟩ := over_lt hf'
        have r1 := (G.hg.lt _ _ h2).2.2
        have k1 := (ih _ (by omega) _ _ rfl h2).2 (by have := (G.least _ (idx_lt h2)).2.le_inf; unfold wDown; omega)
        have k2 := (ih _ (by omega) _ _ rfl h3).1 (by have := (G.least _ (idx_lt h3)).1.le_inf; unfold wUp; omega)
        unfold wUp at k2 ⊢
        unfold wDown at k1
        rw [hx, o3]
        exact ⟨k1.1.trans k2.1, two _ h2 _ _ k1.2 k2.2⟩
    · intro hf
      rcases hL.2.att hf with ⟨j, hj, h0, h1, hx⟩ | ⟨j, hj, hx⟩
      · have hmem := getD_mem2 (d := 0) hj
        rw [G.arc hab] at hmem
        obtain ⟨h2, h3⟩ := hmem
        rw [hAr, hEn] at h1
        rw [G.w_eq] at h0 hx
        have h4 : E.getD ((M.arcs.getD (edges.idxOf (a, b)) []).getD j 0) (0, 0) = (b, a) := by
          rcases h3 with h3 | h3
          · rw [h3] at h1
            exact absurd rfl h1
          · exact h3
        unfold wDown
        rw [hx]
        exact ⟨.one h2 h4 h0, one _ (G.wok _ h2)⟩
      · have hmem := getD_mem2 (d := 0) hj
        rw [G.lower hab] at hmem
        obtain ⟨h2, h3⟩ := hmem
        rw [G.edA hab h2, G.edB hab h3] at hx
        have hf' := hf
        unfold wDown at hf'
        rw [hx] at hf'
        obtain ⟨o1, o2, o3⟩ := over_lt hf'
        have r1 := (G.hg.lt _ _ h2).2.2
        have k1 := (ih _ (by omega) _ _ rfl h2).1 (by have := (G.least _ (idx_lt h2)).1.le_inf; unfold wUp; omega)
        have k2 := (ih _ (by omega) _ _ rfl h3).2 (by have := (G.least _ (idx_lt h3)).2.le_inf; unfold wDown; omega)
        unfold wUp at k1
        unfold wDown at k2 ⊢
        rw [hx, o3]
        exact ⟨k2.1.trans k1.1, two _ h2 _ _ k2.2 k1.2⟩

theorem Good.chw (G : Good n E ws order ranks edges M) : CHW n E ws ranks edges (wUp edges M) (wDown edges M) where
  rng := fun u v h => by
    have := G.least _ (idx_lt h)
    exact ⟨this.1.nonneg, this.1.le_inf, this.2.nonneg, this.2.le_inf⟩
  uarc := fun i hi h0 u v he hlt => by
    have hab := G.hg.adj i hi u v (.inl he) hlt
    have hm := (G.arc (i := i) hab).2 ⟨hi, .inl he⟩
    obtain ⟨j, hj, ej⟩ := mem_getD2 (d := 0) hm
    have hEn : M.h.edges.getD (edges.idxOf (u, v)) (0, 0) = (u, v) := by rw [G.h_eq]; exact idx_get hab
    have hAr : M.h.arcs = E := by rw [G.h_eq]; rfl
    exact (G.least _ (idx_lt hab)).1.le _ (.inl ⟨j, hj, by rw [ej, G.w_eq]; exact h0, by rw [ej, hEn, hAr, he], by rw [ej, G.w_eq]⟩)
  darc := fun i hi h0 u v he hlt => by
    have hab := G.hg.adj i hi u v (.inr he) hlt
    have hm := (G.arc (i := i) hab).2 ⟨hi, .inr he⟩
    obtain ⟨j, hj, ej⟩ := mem_getD2 (d := 0) hm
    have hEn : M.h.edges.getD (edges.idxOf (u, v)) (0, 0) = (u, v) := by rw [G.h_eq]; exact idx_get hab
    have hAr : M.h.arcs = E := by rw [G.h_eq]; rfl
    exact (G.least _ (idx_lt hab)).2.le _ (.inl ⟨j, hj, by rw [ej, G.w_eq]; exact h0, by rw [ej, hEn, hAr, he]; simp only; rintro rfl; omega, by rw [ej, G.w_eq]⟩)
  utri := fun x a b h1 h2 hlt f1 f2 => by
    have hab := G.hg.close x a b h1 h2 hlt
    obtain ⟨j, hj, ej⟩ := mem_getD2 (d := 0) ((G.lower hab).2 ⟨h1, h2⟩)
    refine (G.least _ (idx_lt hab)).1.le _ (.inr ⟨j, hj, ?_⟩)
    rw [ej, G.edA hab h1, G.edB hab h2]
    exact (over_fin (Int.ne_of_lt f1) (Int.ne_of_lt f2)).symm
  dtri := fun x a b h1 h2 hlt f1 f2 => by
    have hab := G.hg.close x a b h1 h2 hlt
    obtain ⟨j, hj, ej⟩ := mem_getD2 (d := 0) ((G.lower hab).2 ⟨h1, h2⟩)
    refine (G.least _ (idx_lt hab)).2.le _ (.inr ⟨j, hj, ?_⟩)
    rw [ej, G.edA hab h1, G.edB hab h2]
    exact (over_fin (Int.ne_of_lt f1) (Int.ne_of_lt f2)).symm
  uwalk := fun u v h hf => ((G.walks _ u v rfl h).1 hf).1
  dwalk := fun u v h hf => ((G.walks _ u v rfl h).2 hf).1
  ubig := fun u v h hf => ((G.walks _ u v rfl h).1 hf).2
  dbig := fun u v h hf => ((G.walks _ u v rfl h).2 hf).2
end

end Go.Proofs.Ytpfjannhggcmiaa
