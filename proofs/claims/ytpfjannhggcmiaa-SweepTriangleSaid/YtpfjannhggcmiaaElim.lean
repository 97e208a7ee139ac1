/- Elimination in plain terms: a hierarchy as a function of its edges; what the contraction of the vertices in order leaves. No program in sight. -/
import Derived.Test.YtpfjannhggcmiaaData
import Derived.Test.YtpfjannhggcmiaaOrd
namespace Go.Proofs.Ytpfjannhggcmiaa

/-- The hierarchy that has these edges, in this order. -/
def upOf (edges : List (Nat × Nat)) (v : Nat) : List Nat := (List.range edges.length).filter fun e => decide ((edges.getD e (0, 0)).1 = v)
def downOf (edges : List (Nat × Nat)) (v : Nat) : List Nat := (edges.filter fun p => decide (p.2 = v)).map (·.1)
def numOf (edges : List (Nat × Nat)) (u v : Nat) : Option Nat := if (u, v) ∈ edges then some (edges.idxOf (u, v)) else none
def hdOf (n : Nat) (arcs : List (Nat × Nat)) (order ranks : List Nat) (edges : List (Nat × Nat)) : HD where
  n := n
  arcs := arcs
  order := order
  ranks := ranks
  edges := edges
  num := numOf edges
  up := (List.range n).map (upOf edges)
  down := (List.range n).map (downOf edges)

theorem up_getD {n : Nat} (edges : List (Nat × Nat)) (v : Nat) (hv : v < n) : ((List.range n).map (upOf edges)).getD v [] = upOf edges v := by simp [List.getD, hv]
theorem down_getD {n : Nat} (edges : List (Nat × Nat)) (v : Nat) (hv : v < n) : ((List.range n).map (downOf edges)).getD v [] = downOf edges v := by simp [List.getD, hv]
theorem getD_append_left' {α : Type} (L M : List α) (i : Nat) (d : α) (h : i < L.length) : (L ++ M).getD i d = L.getD i d := by simp [List.getD, List.getElem?_append_left h]
theorem getD_append_at {α : Type} (L : List α) (x d : α) : (L ++ [x]).getD L.length d = x := by simp [List.getD]

theorem upOf_add (edges : List (Nat × Nat)) (u v x : Nat) : upOf (edges ++ [(u, v)]) x = if x = u then upOf edges x ++ [edges.length] else upOf edges x := by
  unfold upOf
  rw [List.length_append, List.length_singleton, List.range_succ, List.filter_append]
  have h1 : (List.range edges.length).filter (fun e => decide (((edges ++ [(u, v)]).getD e (0, 0)).1 = x)) = (List.range edges.length).filter (fun e => decide ((edges.getD e (0, 0)).1 = x)) := by
    apply List.filter_congr
    intro e he
    rw [getD_append_left' _ _ _ _ (List.mem_range.1 he)]
  rw [h1]
  have h2 : (edges ++ [(u, v)]).getD edges.length (0, 0) = (u, v) := getD_append_at _ _ _
  by_cases e : x = u
  · subst e
    rw [if_pos rfl]
    congr 1
    simp only [List.filter_cons, List.filter_nil, h2]
    simp
  · rw [if_neg e]
    simp only [List.filter_cons, List.filter_nil, h2]
    have : ¬ u = x := fun h => e h.symm
    simp [this]
theorem downOf_add (edges : List (Nat × Nat)) (u v x : Nat) : downOf (edges ++ [(u, v)]) x = if x = v then downOf edges x ++ [u] else downOf edges x := by
  unfold downOf
  rw [List.filter_append, List.map_append]
  by_cases e : x = v
  · subst e; rw [if_pos rfl]; simp
  · rw [if_neg e]
    have : ¬ v = x := fun h => e h.symm
    simp [this]
theorem numOf_add (edges : List (Nat × Nat)) (u v : Nat) (h : (u, v) ∉ edges) (x y : Nat) : numOf (edges ++ [(u, v)]) x y = if x = u ∧ y = v then some edges.length else numOf edges x y := by
  unfold numOf
  by_cases e : x = u ∧ y = v
  · obtain ⟨rfl, rfl⟩ := e
    rw [if_pos (by simp), if_pos ⟨rfl, rfl⟩, List.idxOf_append, if_neg h]
    simp
  · rw [if_neg e]
    have e2 : ¬ (x, y) = (u, v) := fun h => e (by simpa using h)
    by_cases hm : (x, y) ∈ edges
    · rw [if_pos (by simp [hm]), if_pos hm, List.idxOf_append, if_pos hm]
    · rw [if_neg (by simp [hm]; simpa using e), if_neg hm]
theorem map_range_set {α : Type} (n : Nat) (f g : Nat → α) (u : Nat) (hu : u < n) (h : ∀ x, x ≠ u → g x = f x) : (List.range n).map g = ((List.range n).map f).set u (g u) := by
  apply List.ext_getElem
  · simp
  · intro i h1 h2
    simp at h1
    by_cases e : u = i
    · subst e; simp
    · rw [List.getElem_set_ne e]
      simp [h i (fun h => e h.symm)]
theorem up_add {n : Nat} (edges : List (Nat × Nat)) (u v : Nat) (hu : u < n) : (List.range n).map (upOf (edges ++ [(u, v)])) = ((List.range n).map (upOf edges)).set u (((List.range n).map (upOf edges)).getD u [] ++ [edges.length]) := by
  rw [map_range_set n (upOf edges) (upOf (edges ++ [(u, v)])) u hu (fun x hx => by rw [upOf_add, if_neg hx]), upOf_add, if_pos rfl, up_getD edges u hu]
theorem down_add {n : Nat} (edges : List (Nat × Nat)) (u v : Nat) (hv : v < n) : (List.range n).map (downOf (edges ++ [(u, v)])) = ((List.range n).map (downOf edges)).set v (((List.range n).map (downOf edges)).getD v [] ++ [u]) := by
  rw [map_range_set n (downOf edges) (downOf (edges ++ [(u, v)])) v hv (fun x hx => by rw [downOf_add, if_neg hx]), downOf_add, if_pos rfl, down_getD edges v hv]

theorem upOf_len (edges : List (Nat × Nat)) (v : Nat) : (upOf edges v).length ≤ edges.length := by
  unfold upOf
  exact Nat.le_trans (List.length_filter_le _ _) (by simp)
theorem downOf_len (edges : List (Nat × Nat)) (v : Nat) : (downOf edges v).length ≤ edges.length := by
  unfold downOf
  rw [List.length_map]
  exact List.length_filter_le _ _

/-! ### edges row by row -/
/-- The edges of the row of rank a. -/
def rowE (order : List Nat) (a : Nat) (L : List Nat) : List (Nat × Nat) := L.map fun s => (order.getD a 0, order.getD s 0)
def edgesOf (order : List Nat) (rows : List (List Nat)) : List (Nat × Nat) := (List.range rows.length).flatMap fun a => rowE order a (rows.getD a [])
theorem edgesOf_snoc (order : List Nat) (rows : List (List Nat)) (L : List Nat) : edgesOf order (rows ++ [L]) = edgesOf order rows ++ rowE order rows.length L := by
  unfold edgesOf
  rw [List.length_append, List.length_singleton, List.range_succ, List.flatMap_append]
  have h1 : ((List.range rows.length).flatMap fun a => rowE order a ((rows ++ [L]).getD a [])) = (List.range rows.length).flatMap fun a => rowE order a (rows.getD a []) := by
    rw [List.flatMap_def, List.flatMap_def]
    congr 1
    apply List.map_congr_left
    intro a ha
    rw [getD_append_left' _ _ _ _ (List.mem_range.1 ha)]
  rw [h1]
  simp [getD_append_at]
theorem rowE_take (order : List Nat) (a : Nat) (L : List Nat) (i : Nat) (hi : i < L.length) : rowE order a (L.take (i + 1)) = rowE order a (L.take i) ++ [(order.getD a 0, order.getD (L.getD i 0) 0)] := by
  unfold rowE
  rw [take_snoc' L i hi 0, List.map_append]
  rfl
theorem mem_edgesOf {order : List Nat} {rows : List (List Nat)} {p : Nat × Nat} : p ∈ edgesOf order rows ↔ ∃ a s, a < rows.length ∧ s ∈ rows.getD a [] ∧ p = (order.getD a 0, order.getD s 0) := by
  unfold edgesOf rowE
  simp only [List.mem_flatMap, List.mem_range, List.mem_map]
  constructor
  · rintro ⟨a, ha, s, hs, rfl⟩; exact ⟨a, s, ha, hs, rfl⟩
  · rintro ⟨a, s, ha, hs, rfl⟩; exact ⟨a, ha, s, hs, rfl⟩

/-! ### the first loops: the higher neighbours of each vertex -/
/-- After the vertices below v, and the first j neighbours of v. -/
structure Hi1 (n : Nat) (order ranks : List Nat) (nb : List (List Nat)) (v j : Nat) (higher : List (List Nat)) : Prop where
  len : higher.length = n
  mem : ∀ r, r < n → ∀ s, s ∈ higher.getD r [] ↔ r < s ∧ s < n ∧ ((order.getD r 0 < v ∧ order.getD s 0 ∈ nb.getD (order.getD r 0) []) ∨ (order.getD r 0 = v ∧ order.getD s 0 ∈ (nb.getD v []).take j))
  small : ∀ r, r < n → (higher.getD r []).length ≤ (if order.getD r 0 < v then n else if order.getD r 0 = v then j else 0)
theorem Hi1.zero (n : Nat) (order ranks : List Nat) (nb : List (List Nat)) : Hi1 n order ranks nb 0 0 (List.replicate n []) where
  len := by simp
  mem := fun r hr s => by
    have : (List.replicate n ([] : List Nat)).getD r [] = [] := by simp [List.getD, hr]
    rw [this]
    simp
  small := fun r hr => by simp [List.getD, hr]
theorem Hi1.next {n v : Nat} {order ranks : List Nat} {nb : List (List Nat)} {higher : List (List Nat)} (h : Hi1 n order ranks nb v (nb.getD v []).length higher) (hl : (nb.getD v []).length ≤ n) : Hi1 n order ranks nb (v + 1) 0 higher where
  len := h.len
  mem := fun r hr s => by
    rw [h.mem r hr, List.take_length]
    simp only [List.take_zero, List.not_mem_nil, and_false, or_false]
    constructor
    · rintro ⟨h1, h2, ⟨h3, h4⟩ | ⟨h3, h4⟩⟩
      · exact ⟨h1, h2, by omega, h4⟩
      · exact ⟨h1, h2, by omega, by rw [h3]; exact h4⟩
    · rintro ⟨h1, h2, h3, h4⟩
      by_cases e : order.getD r 0 = v
      · exact ⟨h1, h2, .inr ⟨e, by rw [← e]; exact h4⟩⟩
      · exact ⟨h1, h2, .inl ⟨by omega, h4⟩⟩
  small := fun r hr => by
    have := h.small r hr
    split at this <;> split <;> first | omega | (split at this <;> omega)
/-- A neighbour that is not higher. -/
theorem Hi1.pass {n v j : Nat} {order ranks : List Nat} {nb : List (List Nat)} {higher : List (List Nat)} (h : Hi1 n order ranks nb v j higher) (hp : PermN n order ranks) (hj : j < (nb.getD v []).length) (hv : v < n)
    (hle : ranks.getD ((nb.getD v []).getD j 0) 0 ≤ ranks.getD v 0) : Hi1 n order ranks nb v (j + 1) higher where
  len := h.len
  mem := fun r hr s => by
    rw [h.mem r hr, take_snoc' _ j hj 0]
    constructor
    · rintro ⟨h1, h2, h3 | ⟨h3, h4⟩⟩
      · exact ⟨h1, h2, .inl h3⟩
      · exact ⟨h1, h2, .inr ⟨h3, List.mem_append_left _ h4⟩⟩
    · rintro ⟨h1, h2, h3 | ⟨h3, h4⟩⟩
      · exact ⟨h1, h2, .inl h3⟩
      · rcases List.mem_append.1 h4 with h4 | h4
        · exact ⟨h1, h2, .inr ⟨h3, h4⟩⟩
        · have h5 : order.getD s 0 = (nb.getD v []).getD j 0 := by simpa using h4
          rw [← h5, hp.ro s h2, ← h3, hp.ro r hr] at hle
          omega
  small := fun r hr => by
    have := h.small r hr
    split at this <;> split <;> first | omega | (split at this <;> split <;> omega)
/-- A higher neighbour. -/
theorem Hi1.step {n v j : Nat} {order ranks : List Nat} {nb : List (List Nat)} {higher : List (List Nat)} (h : Hi1 n order ranks nb v j higher) (hp : PermN n order ranks) (hj : j < (nb.getD v []).length) (hv : v < n) (hu : (nb.getD v []).getD j 0 < n)
    (hlt : ranks.getD v 0 < ranks.getD ((nb.getD v []).getD j 0) 0) :
    Hi1 n order ranks nb v (j + 1) (higher.set (ranks.getD v 0) (higher.getD (ranks.getD v 0) [] ++ [ranks.getD ((nb.getD v []).getD j 0) 0])) where
  len := by simp [h.len]
  mem := fun r hr s => by
    have hl := h.len
    have hrv := hp.rlt v hv
    have hru := hp.rlt _ hu
    by_cases e : r = ranks.getD v 0
    · have ev : order.getD r 0 = v := by rw [e]; exact hp.or v hv
      rw [e, getD_set_self _ _ _ _ (by omega), ← e, List.mem_append, h.mem r hr, take_snoc' _ j hj 0]
      constructor
      · rintro (⟨h1, h2, h3 | ⟨h3, h4⟩⟩ | h1)
        · exact ⟨h1, h2, .inl h3⟩
        · exact ⟨h1, h2, .inr ⟨h3, List.mem_append_left _ h4⟩⟩
        · have : s = ranks.getD ((nb.getD v []).getD j 0) 0 := by simpa using h1
          subst this
          exact ⟨by rw [e]; exact hlt, hru, .inr ⟨ev, List.mem_append_right _ (by rw [hp.or _ hu]; simp)⟩⟩
      · rintro ⟨h1, h2, h3 | ⟨h3, h4⟩⟩
        · exact .inl ⟨h1, h2, .inl h3⟩
        · rcases List.mem_append.1 h4 with h4 | h4
          · exact .inl ⟨h1, h2, .inr ⟨h3, h4⟩⟩
          · have h5 : order.getD s 0 = (nb.getD v []).getD j 0 := by simpa using h4
            exact .inr (by rw [← h5, hp.ro s h2]; simp)
    · have ev : order.getD r 0 ≠ v := fun h' => e (by rw [← h', hp.ro r hr])
      rw [getD_set_ne _ _ _ _ _ (Ne.symm e), h.mem r hr]
      constructor
      · rintro ⟨h1, h2, h3 | ⟨h3, h4⟩⟩
        · exact ⟨h1, h2, .inl h3⟩
        · exact absurd h3 ev
      · rintro ⟨h1, h2, h3 | ⟨h3, h4⟩⟩
        · exact ⟨h1, h2, .inl h3⟩
        · exact absurd h3 ev
  small := fun r hr => by
    have hl := h.len
    have h0 := h.small r hr
    by_cases e : r = ranks.getD v 0
    · have ev : order.getD r 0 = v := by rw [e]; exact hp.or v hv
      rw [if_neg (by omega), if_pos ev] at h0
      rw [if_neg (by omega), if_pos ev, e, getD_set_self _ _ _ _ (by have := hp.rlt v hv; omega), ← e, List.length_append, List.length_singleton]
      omega
    · rw [getD_set_ne _ _ _ _ _ (Ne.symm e)]
      split at h0 <;> split <;> first | omega | (split at h0 <;> split <;> omega)

/-! ### the main loops -/
/-- The rows below r are done. -/
structure Part (n : Nat) (E : List (Nat × Nat)) (order : List Nat) (r : Nat) (done higher : List (List Nat)) : Prop where
  dlen : done.length = r
  hlen : higher.length = n
  sorted : ∀ a, a < r → (done.getD a []).Pairwise (· < ·)
  rng : ∀ a, a < r → ∀ s, s ∈ done.getD a [] → a < s ∧ s < n
  adj : ∀ a, a < r → ∀ s, a < s → s < n → Adj E E.length (order.getD a 0) (order.getD s 0) → s ∈ done.getD a []
  pass : ∀ a, a < r → ∀ p rest, done.getD a [] = p :: rest → ∀ t, t ∈ rest → (p < r → t ∈ done.getD p []) ∧ (r ≤ p → t ∈ higher.getD p [])
  hrng : ∀ a, r ≤ a → a < n → ∀ s, s ∈ higher.getD a [] → a < s ∧ s < n
  hadj : ∀ a, r ≤ a → a < n → ∀ s, a < s → s < n → Adj E E.length (order.getD a 0) (order.getD s 0) → s ∈ higher.getD a []
  small : ∀ a, a < n → (higher.getD a []).length ≤ n + r * n
theorem Hi1.part {n : Nat} {E : List (Nat × Nat)} {order ranks : List Nat} {nb higher : List (List Nat)} (h : Hi1 n order ranks nb n 0 higher) (hp : PermN n order ranks) (hnb : Nb2 n E n nb) : Part n E order 0 [] higher where
  dlen := rfl
  hlen := h.len
  sorted := fun a ha => by omega
  rng := fun a ha => by omega
  adj := fun a ha => by omega
  pass := fun a ha => by omega
  hrng := fun a _ han s hs => by have := (h.mem a han s).1 hs; exact ⟨this.1, this.2.1⟩
  hadj := fun a _ han s has hsn had => (h.mem a han s).2 ⟨has, hsn, .inl ⟨hp.olt a han, (hnb.mem _ (hp.olt a han) _).2 had⟩⟩
  small := fun a han => by
    have := h.small a han
    have := hp.olt a han
    split at * <;> omega
/-- The table while row r, the list L, is being passed on: i of its elements have been. -/
def midH (higher : List (List Nat)) (L : List Nat) (i : Nat) : List (List Nat) :=
  match L with
  | [] => higher
  | p :: rest => higher.set p (higher.getD p [] ++ rest.take (i - 1))
theorem set_getD_self {α : Type} (L : List α) (i : Nat) (d : α) : L.set i (L.getD i d) = L := by
  apply List.ext_getElem?
  intro j
  rw [List.getElem?_set]
  split
  · rename_i h
    subst h
    split
    · rename_i h; simp [List.getD, h]
    · rename_i h; simp at h; simp [List.getElem?_eq_none h]
  · rfl
theorem midH_zero (higher : List (List Nat)) (L : List Nat) : midH higher L 0 = higher := by
  cases L with
  | nil => rfl
  | cons p rest => simp only [midH, Nat.zero_sub, List.take_zero, List.append_nil]; exact set_getD_self _ _ _
theorem midH_one (higher : List (List Nat)) (L : List Nat) : midH higher L 1 = higher := by
  cases L with
  | nil => rfl
  | cons p rest => simp only [midH, Nat.sub_self, List.take_zero, List.append_nil]; exact set_getD_self _ _ _
theorem midH_len (higher : List (List Nat)) (L : List Nat) (i : Nat) : (midH higher L i).length = higher.length := by
  cases L with
  | nil => rfl
  | cons p rest => simp [midH]
theorem midH_step (higher : List (List Nat)) (L : List Nat) (i : Nat) (h0 : 0 < i) (hi : i < L.length) (hp : L.getD 0 0 < higher.length) :
    midH higher L (i + 1) = (midH higher L i).set (L.getD 0 0) ((midH higher L i).getD (L.getD 0 0) [] ++ [L.getD i 0]) := by
  cases L with
  | nil => simp at hi
  | cons p rest =>
    have e0 : (p :: rest).getD 0 0 = p := rfl
    rw [e0] at hp ⊢
    have hi' : i - 1 < rest.length := by simp at hi; omega
    have e1 : (p :: rest).getD i 0 = rest.getD (i - 1) 0 := by
      obtain ⟨k, rfl⟩ : ∃ k, i = k + 1 := ⟨i - 1, by omega⟩
      simp
    rw [e1]
    simp only [midH]
    rw [getD_set_self _ _ _ _ hp, List.set_set, List.append_assoc, show i + 1 - 1 = (i - 1) + 1 by omega, take_snoc' rest (i - 1) hi' 0]
theorem midH_small {n E order r done higher} (h : Part n E order r done higher) {L : List Nat} (hs : SetOf (higher.getD r []) L) (hr : r < n) (i a : Nat) (ha : a < n) : ((midH higher L i).getD a []).length ≤ n + (r + 1) * n := by
  have h1 := h.small a ha
  have hL : L.length ≤ n := sorted_short hs.sorted (fun x hx => (h.hrng r (Nat.le_refl _) hr x ((hs.mem x).1 hx)).2)
  have e : (r + 1) * n = r * n + n := by rw [Nat.add_mul]; omega
  cases L with
  | nil => simp only [midH]; omega
  | cons p rest =>
    simp only [midH]
    by_cases e2 : p = a
    · subst e2
      rw [getD_set_self _ _ _ _ (by rw [h.hlen]; exact ha), List.length_append]
      have : (rest.take (i - 1)).length ≤ rest.length := by rw [List.length_take]; omega
      simp at hL
      omega
    · rw [getD_set_ne _ _ _ _ _ e2]; omega
theorem Part.step {n : Nat} {E : List (Nat × Nat)} {order : List Nat} {r : Nat} {done higher : List (List Nat)} {L : List Nat} (h : Part n E order r done higher) (hr : r < n) (hs : SetOf (higher.getD r []) L) :
    Part n E order (r + 1) (done ++ [L]) (midH higher L L.length) := by
  have hd := h.dlen
  have old : ∀ a, a < r → (done ++ [L]).getD a [] = done.getD a [] := fun a ha => getD_append_left' _ _ _ _ (by omega)
  have new : (done ++ [L]).getD r [] = L := by rw [← hd]; exact getD_append_at _ _ _
  have hLr : ∀ s, s ∈ L → r < s ∧ s < n := fun s hs' => h.hrng r (Nat.le_refl _) hr s ((hs.mem s).1 hs')
  -- the rows of the table behind the row
  have hrow : ∀ a, a < n → ∀ s, s ∈ (midH higher L L.length).getD a [] ↔ s ∈ higher.getD a [] ∨ (∃ p rest, L = p :: rest ∧ p = a ∧ s ∈ rest) := by
    intro a ha s
    cases hL : L with
    | nil => simp [midH]
    | cons p rest =>
      simp only [midH, List.length_cons, Nat.add_sub_cancel, List.take_length]
      by_cases e : p = a
      · subst e
        rw [getD_set_self _ _ _ _ (by rw [h.hlen]; exact ha), List.mem_append]
        constructor
        · rintro (h1 | h1)
          · exact .inl h1
          · exact .inr ⟨p, rest, rfl, rfl, h1⟩
        · rintro (h1 | ⟨p', rest', h1, _, h2⟩)
          · exact .inl h1
          · cases h1; exact .inr h2
      · rw [getD_set_ne _ _ _ _ _ e]
        constructor
        · exact .inl
        · rintro (h1 | ⟨p', rest', h1, h2, _⟩)
          · exact h1
          · cases h1; exact absurd h2 e
  refine ⟨by simp [hd], by rw [midH_len]; exact h.hlen, ?_, ?_, ?_, ?_, ?_, ?_, fun a ha => midH_small h hs hr _ a ha⟩
  · intro a ha
    by_cases e : a = r
    · subst e; rw [new]; exact hs.sorted
    · rw [old a (by omega)]; exact h.sorted a (by omega)
  · intro a ha s hs'
    by_cases e : a = r
    · subst e; rw [new] at hs'; exact hLr s hs'
    · rw [old a (by omega)] at hs'; exact h.rng a (by omega) s hs'
  · intro a ha s h1 h2 h3
    by_cases e : a = r
    · subst e; rw [new]; exact (hs.mem s).2 (h.hadj a (Nat.le_refl _) hr s h1 h2 h3)
    · rw [old a (by omega)]; exact h.adj a (by omega) s h1 h2 h3
  · intro a ha p rest hpr t ht
    by_cases e : a = r
    · subst e
      rw [new] at hpr
      have hp := hLr p (by rw [hpr]; simp)
      exact ⟨fun h' => by omega, fun _ => (hrow p hp.2 t).2 (.inr ⟨p, rest, hpr, rfl, ht⟩)⟩
    · rw [old a (by omega)] at hpr
      have hp := h.rng a (by omega) p (by rw [hpr]; simp)
      obtain ⟨h1, h2⟩ := h.pass a (by omega) p rest hpr t ht
      refine ⟨fun h' => ?_, fun h' => (hrow p hp.2 t).2 (.inl (h2 (by omega)))⟩
      by_cases e2 : p = r
      · subst e2; rw [new]; exact (hs.mem t).2 (h2 (Nat.le_refl _))
      · rw [old p (by omega)]; exact h1 (by omega)
  · intro a ha han s hs'
    rcases (hrow a han s).1 hs' with h1 | ⟨p, rest, hL, rfl, h1⟩
    · exact h.hrng a (by omega) han s h1
    · have h2 := hLr s (by rw [hL]; exact List.mem_cons_of_mem _ h1)
      have h3 := hs.sorted
      rw [hL, List.pairwise_cons] at h3
      exact ⟨h3.1 s h1, h2.2⟩
  · intro a ha han s h1 h2 h3
    exact (hrow a han s).2 (.inl (h.hadj a (by omega) han s h1 h2 h3))

/-- What is left when all rows are done. -/
structure Elim (n : Nat) (E : List (Nat × Nat)) (order : List Nat) (rows : List (List Nat)) : Prop where
  len : rows.length = n
  sorted : ∀ a, a < n → (rows.getD a []).Pairwise (· < ·)
  rng : ∀ a, a < n → ∀ s, s ∈ rows.getD a [] → a < s ∧ s < n
  adj : ∀ a, a < n → ∀ s, a < s → s < n → Adj E E.length (order.getD a 0) (order.getD s 0) → s ∈ rows.getD a []
  pass : ∀ a, a < n → ∀ p rest, rows.getD a [] = p :: rest → ∀ t, t ∈ rest → t ∈ rows.getD p []
theorem Part.elim {n : Nat} {E : List (Nat × Nat)} {order : List Nat} {done higher : List (List Nat)} (h : Part n E order n done higher) : Elim n E order done where
  len := h.dlen
  sorted := h.sorted
  rng := h.rng
  adj := h.adj
  pass := fun a ha p rest hpr t ht => (h.pass a ha p rest hpr t ht).1 (h.rng a ha p (by rw [hpr]; simp)).2
/-- The higher neighbours of a vertex are neighbours of each other. -/
theorem Elim.close {n : Nat} {E : List (Nat × Nat)} {order : List Nat} {rows : List (List Nat)} (h : Elim n E order rows) : ∀ (d a : Nat), n - a = d → a < n → ∀ u v, u ∈ rows.getD a [] → v ∈ rows.getD a [] → u < v → v ∈ rows.getD u [] := by
  intro d
  induction d using Nat.strongRecOn with
  | _ d ih =>
    intro a hd ha u v hu hv huv
    cases hr : rows.getD a [] with
    | nil => rw [hr] at hu; cases hu
    | cons p rest =>
      have hp := h.rng a ha p (by rw [hr]; simp)
      have hs := h.sorted a ha
      rw [hr, List.pairwise_cons] at hs
      rw [hr] at hu hv
      rcases List.mem_cons.1 hu with e | hu'
      · subst e
        rcases List.mem_cons.1 hv with e | hv'
        · omega
        · exact h.pass a ha _ rest hr v hv'
      · rcases List.mem_cons.1 hv with e | hv'
        · have := hs.1 u hu'; omega
        · exact ih (n - p) (by omega) p rfl hp.2 u v (h.pass a ha p rest hr u hu') (h.pass a ha p rest hr v hv') huv

end Go.Proofs.Ytpfjannhggcmiaa
