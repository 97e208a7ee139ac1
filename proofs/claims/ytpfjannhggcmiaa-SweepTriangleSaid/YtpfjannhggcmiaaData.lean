/- The data of hierarchies and metrics as plain Lean structures. No program in sight. -/
namespace Go.Proofs.Ytpfjannhggcmiaa

/-- A hierarchy: vertices below n, arcs, the order and its ranks, edges (lower end first), the number of an edge, the edges that lead up from a vertex, the lower neighbours of a vertex. -/
structure HD where
  n : Nat
  arcs : List (Nat × Nat)
  order : List Nat
  ranks : List Nat
  edges : List (Nat × Nat)
  num : Nat → Nat → Option Nat
  up : List (List Nat)
  down : List (List Nat)

/-- What keeps every index in bounds. -/
structure HD.ok (D : HD) : Prop where
  n_le : D.n ≤ 1048576
  order_len : D.order.length = D.n
  ranks_len : D.ranks.length = D.n
  up_len : D.up.length = D.n
  down_len : D.down.length = D.n
  order_lt : ∀ i, i < D.n → D.order.getD i 0 < D.n
  edge_lt : ∀ e, e < D.edges.length → (D.edges.getD e (0, 0)).1 < D.n ∧ (D.edges.getD e (0, 0)).2 < D.n
  num_lt : ∀ u v e, D.num u v = some e → e < D.edges.length
  up_lt : ∀ v, v < D.n → ∀ i, i < (D.up.getD v []).length → (D.up.getD v []).getD i 0 < D.edges.length
  down_lt : ∀ v, v < D.n → ∀ i, i < (D.down.getD v []).length → (D.down.getD v []).getD i 0 < D.n
  edges_len : D.edges.length ≤ 1099511627776
  arcs_len : D.arcs.length ≤ 4194304
  arc_lt : ∀ i, i < D.arcs.length → (D.arcs.getD i (0, 0)).1 < D.n ∧ (D.arcs.getD i (0, 0)).2 < D.n

/-- A metric: a hierarchy, the weights of the arcs, the arcs of each edge, the weights of the edges. -/
structure MD where
  h : HD
  w : List Int
  arcs : List (List Nat)
  up : List Int
  down : List Int

structure MD.ok (M : MD) : Prop where
  h_ok : M.h.ok
  w_len : M.w.length = M.h.arcs.length
  arcs_len : M.arcs.length = M.h.edges.length
  up_len : M.up.length = M.h.edges.length
  down_len : M.down.length = M.h.edges.length
  arc_lt : ∀ e, e < M.h.edges.length → ∀ i, i < (M.arcs.getD e []).length → (M.arcs.getD e []).getD i 0 < M.h.arcs.length

end Go.Proofs.Ytpfjannhggcmiaa
