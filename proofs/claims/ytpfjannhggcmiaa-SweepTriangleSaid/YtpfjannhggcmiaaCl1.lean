/- The upward search in memory: its list and its maps. -/
import Derived.Test.YtpfjannhggcmiaaQc
namespace Go.Proofs.Ytpfjannhggcmiaa
open Go.RowKit Go.Maps

def pairv (p : Nat × Int) : List Value := [.int .i64 (p.1 : Int), .int .i64 p.2]
theorem pflat_at (xs : List (Nat × Int)) : ∀ i, i < xs.length → (xs.flatMap pairv)[i * 2]? = some (.int .i64 (((xs.getD i (0, 0)).1 : Nat) : Int)) ∧ (xs.flatMap pairv)[i * 2 + 1]? = some (.int .i64 (xs.getD i (0, 0)).2) := by
  induction xs with
  | nil => intro i h; simp at h
  | cons p xs ih =>
    intro i h
    cases i with
    | zero => simp [pairv]
    | succ i =>
      have := ih i (by simpa using h)
      have e1 : (i + 1) * 2 = i * 2 + 1 + 1 := by omega
      simp only [List.flatMap_cons, pairv, List.cons_append, List.nil_append, e1, List.getElem?_cons_succ, List.getD_cons_succ]
      exact this
theorem own_pairs {w : World} {base : Nat} {e : TypeId} {v : Value} {xs : List (Nat × Int)} (h : w.ownsRow base e 2 v xs.length (xs.flatMap pairv)) :
    ∃ A c, v = .slice A xs.length c ∧ xs.length ≤ c ∧ Fresh base A ∧ Pairs w A xs := by
  obtain ⟨A, c, hv, hc, hf, hr⟩ := own_row h
  refine ⟨A, c, hv, hc, hf, ?_⟩
  rcases hr with h0 | ⟨b, o, hA, hb, hcell⟩
  · exact .inl (by omega)
  · refine .inr ⟨b, o, hA, hb, fun i hi => ?_⟩
    obtain ⟨h1, h2⟩ := pflat_at xs i hi
    constructor
    · rw [hcell (i * 2) (by omega)]; simp [List.getD, h1]
    · have := hcell (i * 2 + 1) (by omega)
      rw [← Nat.add_assoc] at this
      rw [this]; simp [List.getD, h2]
theorem info_reached : (Try.prog.info? 79).map (fun i => (i.zero, i.size, i.bytes)) = some (some (.agg #[.int .i64 0, .int .i64 0]), 2, 16) := by kernel_rfl
def cmap (f : Nat → Option Int) : Nat → Option Value := fun u => (f u).map intv
theorem cmap_put (f : Nat → Option Int) (u : Nat) (c : Int) : nput (cmap f) u (intv c) = cmap (cput f u c) := by
  funext x
  unfold nput cmap cput
  split <;> rfl
theorem cmap_one (s : Nat) (c : Int) : nput (fun _ => none) s (intv c) = cmap (cone s c) := by
  funext x
  unfold nput cmap cone
  split <;> rfl
theorem getD_intv (x : Option Int) : (x.map intv).getD (.int .i64 0) = .int .i64 (x.getD 0) := by cases x <;> rfl
theorem isSome_intv (x : Option Int) : (x.map intv).isSome = x.isSome := by cases x <;> rfl

structure ClB (w : World) (base gx bc bv : Nat) (v : Value) (l : List (Nat × Int)) (cost via : Nat → Option Int) (N : Nat) : Prop where
  bx : base ≤ gx ∧ base ≤ bc ∧ base ≤ bv
  blk : w.heap[gx]? = some (.cells #[v, .map (some bc), .map (some bv)] 131 (0, 0))
  row : w.ownsRow base 79 2 v l.length (l.flatMap pairv)
  mc : ∃ nn, nn ≤ N ∧ NMap w bc nn (cmap cost)
  mv : ∃ nn, nn ≤ N ∧ NMap w bv nn (cmap via)
  ne : bc ≠ bv
theorem NMap.isMap {w : World} {b n : Nat} {f : Nat → Option Value} (h : NMap w b n f) : ∃ es c, w.heap[b]? = some (.map es c) := by
  obtain ⟨m, ⟨D, ⟨es, clock, hb, _⟩, _⟩, _⟩ := h
  exact ⟨es, clock, hb⟩
section
variable {w w' w1 w2 : World} {base gx bc bv : Nat} {v v' : Value} {l : List (Nat × Int)} {cost via : Nat → Option Int} {N : Nat}
theorem ClB.below (H : ClB w base gx bc bv v l cost via N) (hb : Below w.heap.size w w') : ClB w' base gx bc bv v l cost via N := by
  obtain ⟨n1, h1, h2⟩ := H.mc
  obtain ⟨n2, h3, h4⟩ := H.mv
  exact ⟨H.bx, blk_below H.blk hb, own_below H.row hb, ⟨n1, h1, h2.below hb⟩, ⟨n2, h3, h4.below hb⟩, H.ne⟩
theorem ClB.mono {N' : Nat} (H : ClB w base gx bc bv v l cost via N) (h : N ≤ N') : ClB w base gx bc bv v l cost via N' := by
  obtain ⟨n1, h1, h2⟩ := H.mc
  obtain ⟨n2, h3, h4⟩ := H.mv
  exact ⟨H.bx, H.blk, H.row, ⟨n1, Nat.le_trans h1 h, h2⟩, ⟨n2, Nat.le_trans h3 h, h4⟩, H.ne⟩
theorem ClB.ngc (H : ClB w base gx bc bv v l cost via N) : gx ≠ bc := by
  obtain ⟨n1, _, h2⟩ := H.mc
  obtain ⟨es, c, he⟩ := h2.isMap
  exact cells_ne_map H.blk he
theorem ClB.ngv (H : ClB w base gx bc bv v l cost via N) : gx ≠ bv := by
  obtain ⟨n1, _, h2⟩ := H.mv
  obtain ⟨es, c, he⟩ := h2.isMap
  exact cells_ne_map H.blk he
/-- An entry in each map. -/
theorem ClB.put (H : ClB w base gx bc bv v l cost via N) {n1 n2 u : Nat} {c e : Int} (h1 : NMap w1 bc (n1 + 1) (nput (cmap cost) u (intv c))) (hn1 : n1 ≤ N) (g1 : w.grownBy w1 (some bc)) (h2 : NMap w2 bv (n2 + 1) (nput (cmap via) u (intv e))) (hn2 : n2 ≤ N) (g2 : w1.grownBy w2 (some bv)) :
    ClB w2 base gx bc bv v l (cput cost u c) (cput via u e) (N + 1) := by
  have ngc := H.ngc
  have ngv := H.ngv
  obtain ⟨m1, _, k2⟩ := H.mc
  obtain ⟨es, cc, he⟩ := k2.isMap
  obtain ⟨m2, _, k4⟩ := H.mv
  obtain ⟨es2, cc2, he2⟩ := k4.isMap
  rw [cmap_put] at h1 h2
  have b1 := blk_grown H.blk g1 (by simpa using ngc)
  have b2 := blk_grown b1 g2 (by simpa using ngv)
  have r1 := own_same H.row (w' := w1) (fun k hk => g1.block k (H.row.lt k hk).2 (fun h => own_ne_map H.row he (by rw [hk, ← h])))
  have he21 : w1.heap[bv]? = some (.map es2 cc2) := (g1.block bv (blk_lt' he2) (fun h => H.ne (by simpa using h.symm))).trans he2
  have r2 := own_same r1 (w' := w2) (fun k hk => g2.block k (r1.lt k hk).2 (fun h => own_ne_map r1 he21 (by rw [hk, ← h])))
  exact ⟨H.bx, b2, r2, ⟨n1 + 1, by omega, h1.kept g2 (by simpa using H.ne)⟩, ⟨n2 + 1, by omega, h2⟩, H.ne⟩
/-- One more element of the list. -/
theorem ClB.app (H : ClB w base gx bc bv v l cost via N) {u : Nat} {c : Int} (hg : w.grownBy w1 v.ownBlock) (hown : w1.ownsRow base 79 2 v' (l.length + 1) (l.flatMap pairv ++ [.int .i64 (u : Int), .int .i64 c])) :
    ClB (w1.setCell ⟨gx, 0, none⟩ v') base gx bc bv v' (l ++ [(u, c)]) cost via N := by
  obtain ⟨n1, h1, h2⟩ := H.mc
  obtain ⟨n2, h3, h4⟩ := H.mv
  obtain ⟨es, cc, he⟩ := h2.isMap
  obtain ⟨es2, cc2, he2⟩ := h4.isMap
  have ngc := H.ngc
  have ngv := H.ngv
  have b1 := blk_grown H.blk hg (own_ne H.row H.blk (by decide))
  have e1 : (l ++ [(u, c)]).length = l.length + 1 := by simp
  have e2 : (l ++ [(u, c)]).flatMap pairv = l.flatMap pairv ++ [.int .i64 (u : Int), .int .i64 c] := by simp [pairv]
  refine ⟨H.bx, by have := blk_set' b1 0 v'; simpa using this, ?_, ⟨n1, h1, (h2.kept hg (own_ne_map H.row he)).same (Below.heap_setCell w1 _ v' bc (Ne.symm ngc))⟩, ⟨n2, h3, (h4.kept hg (own_ne_map H.row he2)).same (Below.heap_setCell w1 _ v' bv (Ne.symm ngv))⟩, H.ne⟩
  rw [e1, e2]
  exact own_same hown (fun k hk => Below.heap_setCell w1 _ v' k (by rintro rfl; exact own_ne hown b1 (by decide) hk.symm))
end

/-- What the upward search returns. -/
def RetClimb (w : World) (n : Nat) (E : List (Nat × Nat)) (ws : List Int) (ranks : List Nat) (edges : List (Nat × Nat)) (U : Nat → Nat → Int) (s : Nat) (en : Ending) (w' : World) : Prop :=
  ∃ A c l bc bv nc nv cost via, en = .returned (.agg #[.slice A l.length c, .map (some bc), .map (some bv)]) ∧ l.length ≤ c ∧ Fresh w.heap.size A ∧ Pairs w' A l ∧ NMap w' bc nc (cmap cost) ∧ NMap w' bv nv (cmap via) ∧ ClimbEnd n E ws ranks edges U s l cost via ∧ Below w.heap.size w w'
/-- The search stands at a vertex, or has ended. -/
def ClO (W8 : World) (n : Nat) (E : List (Nat × Nat)) (ws : List Int) (ranks : List Nat) (edges : List (Nat × Nat)) (U : Nat → Nat → Int) (s base gx bc bv : Nat) (x : Value) (wr : World) : Prop :=
  Below base W8 wr ∧ ((∃ v l cost via vv, x = .int .i64 (v : Nat) ∧ ClimbAt n E ws ranks edges U s v 0 l cost via ∧ ClB wr base gx bc bv vv l cost via (1 + ranks.getD v 0 * 1099511627776)) ∨
    (∃ l cost via vv N, x = .int .i64 (-1) ∧ ClimbEnd n E ws ranks edges U s l cost via ∧ ClB wr base gx bc bv vv l cost via N))
/-- The inner loop: the first j edges of v are relaxed. -/
def ClI (W8 : World) (n : Nat) (E : List (Nat × Nat)) (ws : List Int) (ranks : List Nat) (edges : List (Nat × Nat)) (U : Nat → Nat → Int) (s base gx bc bv v : Nat) (cv : Int) (l : List (Nat × Int)) (x : Value) (wr : World) : Prop :=
  Below base W8 wr ∧ ∃ (j : Nat) (cost via : Nat → Option Int) (vv : Value), j ≤ (upOf edges v).length ∧ x = .int .i64 (j : Nat) ∧ cost v = some cv ∧ ClimbAt n E ws ranks edges U s v j l cost via ∧ ClB wr base gx bc bv vv (l ++ [(v, cv)]) cost via (1 + ranks.getD v 0 * 1099511627776 + j)
theorem ClO.below {W8 wr w' : World} {n : Nat} {E : List (Nat × Nat)} {ws : List Int} {ranks : List Nat} {edges : List (Nat × Nat)} {U : Nat → Nat → Int} {s base gx bc bv : Nat} {x : Value} (h : ClO W8 n E ws ranks edges U s base gx bc bv x wr) (hs : base ≤ wr.heap.size) (hb : Below wr.heap.size wr w') : ClO W8 n E ws ranks edges U s base gx bc bv x w' := by
  obtain ⟨h1, h2⟩ := h
  refine ⟨h1.trans (hb.mono hs), ?_⟩
  rcases h2 with ⟨v, l, cost, via, vv, rfl, hat, hB⟩ | ⟨l, cost, via, vv, N, rfl, hend, hB⟩
  · exact .inl ⟨v, l, cost, via, vv, rfl, hat, hB.below hb⟩
  · exact .inr ⟨l, cost, via, vv, N, rfl, hend, hB.below hb⟩
theorem Nats.grown {w w1 : World} {A : Option Addr} {xs : List Nat} {row : Option Nat} (h : Nats w A xs) (hg : w.grownBy w1 row) (hn : ∀ ad, A = some ad → some ad.block ≠ row) : Nats w1 A xs := by
  rcases h with h | ⟨b, o, hA, hlt, hc⟩
  · exact .inl h
  · refine .inr ⟨b, o, hA, Nat.lt_of_lt_of_le hlt hg.size, fun i hi => ?_⟩
    exact (World.cell?_of_block (hg.block b hlt (hn _ hA))).trans (hc i hi)
def mClO (n : Nat) (ranks : List Nat) (x : Value) : Nat := if intOf x < 0 then 0 else n - ranks.getD (intOf x).toNat 0 + 1
theorem mClO_nat (n : Nat) (ranks : List Nat) (v : Nat) : mClO n ranks (.int .i64 (v : Nat)) = n - ranks.getD v 0 + 1 := by
  unfold mClO
  have : ¬ ((v : Nat) : Int) < 0 := by omega
  simp [intOf, this]
theorem mClO_neg (n : Nat) (ranks : List Nat) : mClO n ranks (.int .i64 (-1)) = 0 := by simp [mClO, intOf]
theorem clo_next {W8 wr : World} {n : Nat} {E : List (Nat × Nat)} {ws : List Int} {order ranks : List Nat} {edges : List (Nat × Nat)} {U : Nat → Nat → Int} {s base gx bc bv v j : Nat} {l l' : List (Nat × Int)} {cost via : Nat → Option Int} {vv : Value} {N : Nat} {Dh : HD}
    (hg : HG n E order ranks edges) (hat : ClimbAt n E ws ranks edges U s v j l cost via) (hj : j = (upOf edges v).length ∨ cost v = none) (hl : Listed v cost l l') (hB : ClB wr base gx bc bv vv l' cost via N) (hN : N ≤ 1 + ranks.getD v 0 * 1099511627776 + 1099511627776) (hb : Below base W8 wr)
    (hDu : Dh.up.getD v [] = upOf edges v) (hDe : Dh.edges = edges) :
    ClO W8 n E ws ranks edges U s base gx bc bv (.int .i64 (Dh.parent v)) wr ∧ mClO n ranks (.int .i64 (Dh.parent v)) < mClO n ranks (.int .i64 (v : Nat)) := by
  unfold HD.parent
  rw [hDu, hDe, mClO_nat]
  by_cases h0 : (upOf edges v).length = 0
  · rw [if_pos h0, mClO_neg]
    exact ⟨⟨hb, .inr ⟨l', cost, via, vv, N, rfl, hat.fin hg hl h0, hB⟩⟩, by omega⟩
  · rw [if_neg h0]
    obtain ⟨p, h1, h2, h3⟩ := hat.next hg hj hl (by omega)
    have h1' : (edges.getD ((upOf edges v).getD 0 0) (0, 0)).2 = p := by rw [h1]
    rw [h1', mClO_nat]
    have hp := hg.perm.rlt p h3.vn
    exact ⟨⟨hb, .inl ⟨p, l', cost, via, vv, rfl, h3, hB.mono (by omega)⟩⟩, by omega⟩

end Go.Proofs.Ytpfjannhggcmiaa
