/- Contract of contract.New: the hierarchy of a graph for an order, or an error. -/
import Derived.Test.YtpfjannhggcmiaaNew
namespace Go.Proofs.Ytpfjannhggcmiaa
open Go.RowKit Go.Maps

theorem PMap.isMap {w : World} {b n : Nat} {f : Nat → Nat → Option Value} (h : PMap w b n f) : ∃ es c, w.heap[b]? = some (.map es c) := by
  obtain ⟨m, ⟨D, ⟨es, clock, hb, _⟩, _⟩, _⟩ := h
  exact ⟨es, clock, hb⟩

theorem own_ne_map {w : World} {base n size g : Nat} {e : TypeId} {v : Value} {xs : List Value} {es : Array MapEntry} {c : Nat} (h : w.ownsRow base e size v n xs) (hg : w.heap[g]? = some (.map es c)) : some g ≠ v.ownBlock := by
  obtain ⟨_, ⟨rfl, _⟩ | ⟨b, cap, cur, rfl, _, hh, _⟩⟩ := h
  · simp [Value.ownBlock]
  · intro hb
    simp only [Value.ownBlock, Option.some.injEq] at hb
    subst hb
    rw [hg] at hh
    cases hh
theorem cells_ne {w : World} {g g' : Nat} {cs cs' : Array Value} {t t' : TypeId} {fr fr' : Nat × Nat} (h : w.heap[g]? = some (.cells cs t fr)) (h' : w.heap[g']? = some (.cells cs' t' fr')) (hne : t ≠ t') : g ≠ g' := by
  rintro rfl
  rw [h] at h'
  cases h'
  exact hne rfl
theorem cells_ne_map {w : World} {g g' : Nat} {cs : Array Value} {t : TypeId} {fr : Nat × Nat} {es : Array MapEntry} {c : Nat} (h : w.heap[g]? = some (.cells cs t fr)) (h' : w.heap[g']? = some (.map es c)) : g ≠ g' := by
  rintro rfl
  rw [h] at h'
  cases h'
/-- Labels of a hierarchy's own blocks. -/
def labH (n gu gd h nb : Nat) : Lab := fun k => if k = gu then (1, n) else if k = gd then (2, n) else if k = h then (4, 0) else if k = nb then (4, 1) else (0, 0)
theorem labH_0 {n gu gd h nb k : Nat} (h1 : k ≠ gu) (h2 : k ≠ gd) (h3 : k ≠ h) (h4 : k ≠ nb) : labH n gu gd h nb k = (0, 0) := by simp [labH, h1, h2, h3, h4]
theorem ro_own {w W : World} {base n size m gu gd h nb : Nat} {e : TypeId} {A : Option Addr} {c : Nat} {xs : List Value} {cu cd : Array Value} {es : Array MapEntry} {k : Nat} (ho : w.ownsRow base e size (.slice A n c) n xs) (hs : w.heap.size ≤ W.heap.size) (hh : w.heap.size ≤ h)
    (hu : w.heap[gu]? = some (.cells cu 25 (0, 0))) (hd : w.heap[gd]? = some (.cells cd 25 (0, 0))) (hm : w.heap[nb]? = some (.map es k)) (he : e ≠ 25) : RO W (labH m gu gd h nb) A := fun ad e1 => by
  subst e1
  have h1 : (Value.slice (some ad) n c).ownBlock = some ad.block := rfl
  have h2 := ho.lt ad.block h1
  have n1 : ad.block ≠ gu := fun e2 => own_ne ho hu he (by rw [h1, e2])
  have n2 : ad.block ≠ gd := fun e2 => own_ne ho hd he (by rw [h1, e2])
  have n3 : ad.block ≠ nb := fun e2 => own_ne_map ho hm (by rw [h1, e2])
  exact ⟨Nat.lt_of_lt_of_le h2.2 hs, by rw [labH_0 n1 n2 (by omega) n3]⟩

/-- What New's parts have left so far. -/
structure NewI (W0 : World) (n : Nat) (E : List (Nat × Nat)) (order : List Nat) (done : Nat → Bool) (f : Nat → Value) (w : World) : Prop where
  bel : Below W0.heap.size W0 w
  i4 : done 4 = true → w.ownsRow W0.heap.size 48 2 (f 4) E.length ((List.range (E.length * 2)).map (arcc E))
  i5 : done 5 = true → done 4 = true ∧ f 5 = .agg #[.int .i64 (n : Int), f 4]
  i7 : done 7 = true → w.ownsRow W0.heap.size 3 1 (f 7) n (order.map natv)
  i9 : done 9 = true → ∃ g ranks, f 9 = .slice (some ⟨g, 0, none⟩) n n ∧ PermN n order ranks ∧ W0.heap.size ≤ g ∧ w.heap[g]? = some (.cells (ranks.map natv).toArray 3 (0, 0))
  i10 : done 10 = true → ∃ b, f 10 = .map (some b) ∧ PMap w b 0 (fun _ _ => none) ∧ W0.heap.size ≤ b
  i13 : done 13 = true → ∃ g, f 13 = .slice (some ⟨g, 0, none⟩) n n ∧ W0.heap.size ≤ g ∧ w.heap[g]? = some (.cells (Array.replicate n (.slice none 0 0)) 25 (0, 0))
  i16 : done 16 = true → ∃ g, f 16 = .slice (some ⟨g, 0, none⟩) n n ∧ W0.heap.size ≤ g ∧ w.heap[g]? = some (.cells (Array.replicate n (.slice none 0 0)) 25 (0, 0))
  ne : done 13 = true → done 16 = true → f 13 ≠ f 16

section
variable {W0 w w' : World} {n : Nat} {E : List (Nat × Nat)} {order : List Nat} {done : Nat → Bool} {f : Nat → Value}
theorem own_below {base m size : Nat} {e : TypeId} {v : Value} {xs : List Value} (h : w.ownsRow base e size v m xs) (hb : Below w.heap.size w w') : w'.ownsRow base e size v m xs := own_same h (fun k hk => hb.block k (h.lt k hk).2)
theorem NewI.grow (h : NewI W0 n E order done f w) (hb : Below w.heap.size w w') : NewI W0 n E order done f w' where
  bel := below_then' h.bel hb
  i4 := fun hd => own_below (h.i4 hd) hb
  i5 := h.i5
  i7 := fun hd => own_below (h.i7 hd) hb
  i9 := fun hd => by obtain ⟨g, ranks, h1, h2, h3, h4⟩ := h.i9 hd; exact ⟨g, ranks, h1, h2, h3, blk_below h4 hb⟩
  i10 := fun hd => by obtain ⟨b, h1, h2, h3⟩ := h.i10 hd; exact ⟨b, h1, h2.below hb, h3⟩
  i13 := fun hd => by obtain ⟨g, h1, h2, h3⟩ := h.i13 hd; exact ⟨g, h1, h2, blk_below h3 hb⟩
  i16 := fun hd => by obtain ⟨g, h1, h2, h3⟩ := h.i16 hd; exact ⟨g, h1, h2, blk_below h3 hb⟩
  ne := h.ne
theorem NewI.add4 (h : NewI W0 n E order done f w) (hd : done 4 = false) {u : Value} (hu : w.ownsRow W0.heap.size 48 2 u E.length ((List.range (E.length * 2)).map (arcc E))) : NewI W0 n E order (setD done 4) (setF f 4 u) w where
  bel := h.bel
  i4 := fun _ => hu
  i5 := fun h5 => by have := (h.i5 h5).1; rw [hd] at this; cases this
  i7 := h.i7
  i9 := h.i9
  i10 := h.i10
  i13 := h.i13
  i16 := h.i16
  ne := h.ne
theorem NewI.add5 (h : NewI W0 n E order done f w) (hd : done 4 = true) {u : Value} (hu : u = .agg #[.int .i64 (n : Int), f 4]) : NewI W0 n E order (setD done 5) (setF f 5 u) w where
  bel := h.bel
  i4 := h.i4
  i5 := fun _ => ⟨hd, hu⟩
  i7 := h.i7
  i9 := h.i9
  i10 := h.i10
  i13 := h.i13
  i16 := h.i16
  ne := h.ne
theorem NewI.add7 (h : NewI W0 n E order done f w) {u : Value} (hu : w.ownsRow W0.heap.size 3 1 u n (order.map natv)) : NewI W0 n E order (setD done 7) (setF f 7 u) w where
  bel := h.bel
  i4 := h.i4
  i5 := h.i5
  i7 := fun _ => hu
  i9 := h.i9
  i10 := h.i10
  i13 := h.i13
  i16 := h.i16
  ne := h.ne
theorem NewI.add9 (h : NewI W0 n E order done f w) {u : Value} (hu : ∃ g ranks, u = .slice (some ⟨g, 0, none⟩) n n ∧ PermN n order ranks ∧ W0.heap.size ≤ g ∧ w.heap[g]? = some (.cells (ranks.map natv).toArray 3 (0, 0))) : NewI W0 n E order (setD done 9) (setF f 9 u) w where
  bel := h.bel
  i4 := h.i4
  i5 := h.i5
  i7 := h.i7
  i9 := fun _ => hu
  i10 := h.i10
  i13 := h.i13
  i16 := h.i16
  ne := h.ne
theorem NewI.add10 (h : NewI W0 n E order done f w) {u : Value} (hu : ∃ b, u = .map (some b) ∧ PMap w b 0 (fun _ _ => none) ∧ W0.heap.size ≤ b) : NewI W0 n E order (setD done 10) (setF f 10 u) w where
  bel := h.bel
  i4 := h.i4
  i5 := h.i5
  i7 := h.i7
  i9 := h.i9
  i10 := fun _ => hu
  i13 := h.i13
  i16 := h.i16
  ne := h.ne
theorem NewI.add13 (h : NewI W0 n E order done f w) : NewI W0 n E order (setD done 13) (setF f 13 (.slice (some ⟨w.heap.size, 0, none⟩) n n)) (w.alloc (.cells (Array.replicate n (.slice none 0 0)) 25)) := by
  have h' := h.grow (below_alloc' (Below.refl _ w) (.cells (Array.replicate n (.slice none 0 0)) 25))
  exact {
    bel := h'.bel
    i4 := h'.i4
    i5 := h'.i5
    i7 := h'.i7
    i9 := h'.i9
    i10 := h'.i10
    i13 := fun _ => ⟨w.heap.size, rfl, h.bel.size, new_blk w _ _⟩
    i16 := h'.i16
    ne := fun _ h16 => by
      obtain ⟨g, hg, _, hb⟩ := h.i16 h16
      show Value.slice (some ⟨w.heap.size, 0, none⟩) n n ≠ f 16
      rw [hg]
      intro e
      cases e
      exact absurd (blk_lt' hb) (Nat.lt_irrefl _) }
theorem NewI.add16 (h : NewI W0 n E order done f w) : NewI W0 n E order (setD done 16) (setF f 16 (.slice (some ⟨w.heap.size, 0, none⟩) n n)) (w.alloc (.cells (Array.replicate n (.slice none 0 0)) 25)) := by
  have h' := h.grow (below_alloc' (Below.refl _ w) (.cells (Array.replicate n (.slice none 0 0)) 25))
  exact {
    bel := h'.bel
    i4 := h'.i4
    i5 := h'.i5
    i7 := h'.i7
    i9 := h'.i9
    i10 := h'.i10
    i13 := h'.i13
    i16 := fun _ => ⟨w.heap.size, rfl, h.bel.size, new_blk w _ _⟩
    ne := fun h13 _ => by
      obtain ⟨g, hg, _, hb⟩ := h.i13 h13
      show f 13 ≠ Value.slice (some ⟨w.heap.size, 0, none⟩) n n
      rw [hg]
      intro e
      cases e
      exact absurd (blk_lt' hb) (Nat.lt_irrefl _) }
end

/-! ### the hierarchy that is returned -/
theorem Elim.row_le {n : Nat} {E : List (Nat × Nat)} {order : List Nat} {rows : List (List Nat)} (h : Elim n E order rows) (a : Nat) (ha : a < rows.length) : (rows.getD a []).length ≤ n := by
  rw [h.len] at ha
  exact sorted_short (h.sorted a ha) (fun x hx => (h.rng a ha x hx).2)
theorem Elim.edge_lt {n : Nat} {E : List (Nat × Nat)} {order ranks : List Nat} {rows : List (List Nat)} (h : Elim n E order rows) (hp : PermN n order ranks) {p : Nat × Nat} (hm : p ∈ edgesOf order rows) : p.1 < n ∧ p.2 < n := by
  obtain ⟨a, s, ha, hs, rfl⟩ := mem_edgesOf.1 hm
  rw [h.len] at ha
  exact ⟨hp.olt a ha, hp.olt s (h.rng a ha s hs).2⟩
theorem mem_getD {α : Type} {L : List α} {i : Nat} {d : α} (hi : i < L.length) : L.getD i d ∈ L := by rw [List.getD, List.getElem?_eq_getElem hi]; exact List.getElem_mem _
theorem Elim.ok {n : Nat} {E : List (Nat × Nat)} {order ranks : List Nat} {rows : List (List Nat)} (h : Elim n E order rows) (hp : PermN n order ranks) (hn : n ≤ 1024) (hE : EndsOk n E) (he : E.length ≤ 4194304) : (hdOf n E order ranks (edgesOf order rows)).ok where
  n_le := by show n ≤ _; omega
  order_len := hp.olen
  ranks_len := hp.rlen
  up_len := by simp [hdOf]
  down_len := by simp [hdOf]
  order_lt := hp.olt
  edge_lt := fun e he => h.edge_lt hp (mem_getD he)
  num_lt := fun u v e he => by
    change numOf _ u v = some e at he
    unfold numOf at he
    split at he
    · rename_i hm
      have := List.idxOf_lt_length_of_mem hm
      cases he
      exact this
    · cases he
  up_lt := fun v hv i hi => by
    change v < n at hv
    change i < (((List.range n).map (upOf _)).getD v []).length at hi
    change (((List.range n).map (upOf _)).getD v []).getD i 0 < _
    rw [up_getD _ _ hv] at hi ⊢
    have := mem_getD (d := 0) hi
    unfold upOf at this
    exact List.mem_range.1 (List.mem_filter.1 this).1
  down_lt := fun v hv i hi => by
    change v < n at hv
    change i < (((List.range n).map (downOf _)).getD v []).length at hi
    change (((List.range n).map (downOf _)).getD v []).getD i 0 < n
    rw [down_getD _ _ hv] at hi ⊢
    have := mem_getD (d := 0) hi
    obtain ⟨p, hp', he⟩ := List.mem_map.1 (show (downOf (edgesOf order rows) v).getD i 0 ∈ ((edgesOf order rows).filter fun p => decide (p.2 = v)).map (·.1) from this)
    exact he ▸ (h.edge_lt hp (List.mem_filter.1 hp').1).1
  edges_len := by
    have h1 := edgesOf_len (order := order) h.row_le
    rw [h.len] at h1
    have h2 : n * n ≤ 1024 * 1024 := Nat.mul_le_mul (by omega) (by omega)
    show (edgesOf order rows).length ≤ _
    omega
  arcs_len := he
  arc_lt := fun i hi => hE i hi
theorem HOwn.hier {w : World} {lab : Lab} {base h : Nat} {D : HD} {Aa : Option Addr} {ca : Nat} {Ao : Option Addr} {co : Nat} {Ar : Option Addr} {cr : Nat} {ve : Value} {nb gu gd : Nat} (H : HOwn w lab base h D Aa ca Ao co Ar cr ve nb gu gd) (hok : D.ok) : HierAt w h D := by
  obtain ⟨Ae, ce, rfl, hce, _, hA⟩ := own_arcs' H.edges
  exact ⟨hok, Aa, ca, Ao, co, Ar, cr, Ae, ce, nb, D.edges.length, some ⟨gu, 0, none⟩, D.n, some ⟨gd, 0, none⟩, D.n, H.blk, ⟨H.capa, H.capo, H.capr, hce, Nat.le_refl _, Nat.le_refl _⟩, H.arcs, H.order, H.ranks, hA, H.num, H.up.lists, H.down.lists⟩

/-- An error and no hierarchy. -/
def RetNoHier (w : World) (en : Ending) (w' : World) : Prop := ∃ r : Int, en = .returned (.tuple #[.pointer none, .int .i64 r]) ∧ r ≠ 0 ∧ Below w.heap.size w w'
/-- A hierarchy and no error. -/
def RetHier (w : World) (n : Nat) (E : List (Nat × Nat)) (order : List Nat) (en : Ending) (w' : World) : Prop :=
  ∃ h ranks rows, en = .returned (.tuple #[.pointer (some ⟨h, 0, none⟩), .int .i64 0]) ∧ PermN n order ranks ∧ Elim n E order rows ∧ HierAt w' h (hdOf n E order ranks (edgesOf order rows)) ∧ w.heap.size ≤ h ∧ Below w.heap.size w w'

set_option maxRecDepth 100000 in
set_option maxHeartbeats 8000000 in
theorem new_bad (n : Nat) (E : List (Nat × Nat)) (A : Option Addr) (c : Nat) (B : Option Addr) (l : List Int) (d : Nat) (w : World) (hr : Arcs w A E) (hl : Ints w B l) (hn : n ≤ 1024) (he : E.length ≤ 4194304) (hE : EndsOk n E) (hll : l.length ≤ 1099511627776) (hbad : ¬ PermI n l) :
    Calls Try.prog 40 #[.agg #[.int .i64 (n : Int), .slice A E.length c], .slice B l.length d] w (RetNoHier w) := by
  have Hr := hid hr
  have Hl := hid hl
  have HE := hid hE
  have Hbad := hid hbad
  clear hr hl hE hbad
  go_enter Try.func40, Try.ntmps40
  go_wp2_with fail
  rw [← toI_length E]
  refine (graphcheck n A (toI E) c _ (arcs_toI.1 (by exact Hr.out.below (below_alloc' (Below.refl _ _) _))) (by omega) (by omega) (by rw [toI_length]; exact he)).mono ?_
  rintro e w1 ⟨r, rfl, hr0, hb⟩
  obtain rfl : r = 0 := hr0.2 (fun i hi => by rw [toI_length] at hi; have := HE.out i hi; unfold ArcOk; rw [toI_getD]; simp only; omega)
  rw [toI_length E] at hb ⊢
  have hb1 : Below w.heap.size w w1 := below_then' (below_alloc' (Below.refl _ _) _) hb
  have kb : w1.heap[w.heap.size]? = some (.cells #[.int .i64 (n : Int), .slice A E.length c] 24 (0, 0)) := blk_below (new_blk w _ _) hb
  have b0 : w1.cell? ⟨w.heap.size, 0, none⟩ = some (.int .i64 (n : Int)) := blk_cell' kb 0
  have bl := blk_lt' kb
  have Hb1 := hid hb1
  clear hb1 hb kb hr0
  go_wp2_with fail
  refine (ordercheck n B l d w1 (Hl.out.below Hb1.out) (by omega) hll).mono ?_
  rintro e w2 ⟨r, rfl, hr0, hb⟩
  have hne : r ≠ 0 := fun h => Hbad.out (hr0.1 h)
  have e1 : (r != 0) = true := by simp [hne]
  have HB := hid (below_then' Hb1.out hb)
  have Hne := hid hne
  clear hr0 hb hne b0 bl
  go_wp2
  go_ret2
  exact ⟨r, rfl, Hne.out, HB.out⟩

set_option maxRecDepth 100000 in
set_option maxHeartbeats 8000000 in
theorem new_good (n : Nat) (E : List (Nat × Nat)) (A : Option Addr) (c : Nat) (B : Option Addr) (order : List Nat) (d : Nat) (w : World) (hr : Arcs w A E) (hl : Nats w B order) (hn : n ≤ 1024) (he : E.length ≤ 4194304) (hE : EndsOk n E) (hol : order.length = n) (hlt : ∀ x ∈ order, x < n) (hd : order.Nodup) :
    Calls Try.prog 40 #[.agg #[.int .i64 (n : Int), .slice A E.length c], .slice B n d] w (RetHier w n E order) := by
  have Hr := hid hr
  have Hl := hid hl
  have HE := hid hE
  have Hlt := hid hlt
  have Hd := hid hd
  have Hol := hid hol
  have hofl : (ofNats order).length = n := by simp [ofNats, hol]
  have hperm : Hid (PermI n (ofNats order)) := by
    refine ⟨fun i hi => ?_, fun i j hij hj => ?_, by rw [hofl]; omega⟩
    · rw [hofl] at hi
      have h1 : i < order.length := by omega
      have := hlt _ (List.getElem_mem h1)
      simp [ofNats, List.getD, h1]
      omega
    · rw [hofl] at hj
      have h1 : i < order.length := by omega
      have h2 : j < order.length := by omega
      have := fun h => nodup_getD hd h1 h2 h
      simp [ofNats, List.getD, h1, h2] at this ⊢
      omega
  have hoc := fun W (hW : Below w.heap.size w W) => ordercheck n B (ofNats order) d W (ints_nats.2 (hl.below hW)) (by omega) (by omega)
  rw [hofl] at hoc
  have Hoc := hid hoc
  have eg68 := fun args w => enter_of (Try.func68) (by kernel_rfl) rfl args w
  have eg69 := fun args w => enter_of (Try.func69) (by kernel_rfl) rfl args w
  have eg70 := fun args w => enter_of (Try.func70) (by kernel_rfl) rfl args w
  have EG := hid (And.intro eg68 (And.intro eg69 eg70))
  clear hr hl hE hlt hd hol hofl hoc eg68 eg69 eg70
  go_enter Try.func40, Try.ntmps40
  go_wp2_with fail
  rw [← toI_length E]
  refine (graphcheck n A (toI E) c _ (arcs_toI.1 (by exact Hr.out.below (below_alloc' (Below.refl _ _) _))) (by omega) (by omega) (by rw [toI_length]; exact he)).mono ?_
  rintro e w1 ⟨r, rfl, hr0, hb⟩
  obtain rfl : r = 0 := hr0.2 (fun i hi => by rw [toI_length] at hi; have := HE.out i hi; unfold ArcOk; rw [toI_getD]; simp only; omega)
  rw [toI_length E] at hb ⊢
  have hb1 : Below w.heap.size w w1 := below_then' (below_alloc' (Below.refl _ _) _) hb
  have kb : w1.heap[w.heap.size]? = some (.cells #[.int .i64 (n : Int), .slice A E.length c] 24 (0, 0)) := blk_below (new_blk w _ _) hb
  have b0 : w1.cell? ⟨w.heap.size, 0, none⟩ = some (.int .i64 (n : Int)) := blk_cell' kb 0
  have bl := blk_lt' kb
  have Hb1 := hid hb1
  have Kb := hid kb
  clear hb1 hb kb hr0
  go_wp2_with fail
  refine (Hoc.out w1 Hb1.out).mono ?_
  rintro e w2 ⟨r, rfl, hr0, hb⟩
  obtain rfl : r = 0 := hr0.2 hperm.out
  have HB2 := hid (below_then' Hb1.out hb)
  have Kb2 := hid (blk_below Kb.out hb)
  have b0 : w2.cell? ⟨w.heap.size, 0, none⟩ = some (.int .i64 (n : Int)) := blk_cell' Kb2.out 0
  have b1 : w2.cell? ⟨w.heap.size, 1, none⟩ = some (.slice A E.length c) := blk_cell' Kb2.out 1
  have bl := blk_lt' Kb2.out
  clear hb hr0 Hb1 Kb
  go_wp2
  have b0' : w2.drew.cell? ⟨w.heap.size, 0, none⟩ = some (.int .i64 (n : Int)) := b0
  have b1' : w2.drew.cell? ⟨w.heap.size, 1, none⟩ = some (.slice A E.length c) := b1
  refine wp_region_eff (fun w' => w'.cell? ⟨w.heap.size, 0, none⟩ = some (.int .i64 (n : Int)) ∧ w'.cell? ⟨w.heap.size, 1, none⟩ = some (.slice A E.length c)) 19 [0, 1, 2, 3, 6, 8, 11, 12, 14, 15] [(4, some 25), (5, some 26), (7, some 28), (9, some 30), (10, some 31), (13, some 34), (16, some 37)] [17, 18] (fun i => if i = 5 then [4] else []) (NewI w2.drew n E order) (by kernel_rfl) (by unfold sepE; simp) (by kernel_rfl) ⟨b0', b1'⟩ ?_
  iterate 10
    refine readsS_take (v := ?_) rfl (by rfl) ?_ ?_
    rotate_left
    · (intro W hSW; (try dsimp only at hSW); go_split_ands; go_simp; try with_reducible rfl)
    simp only [Act.put, List.setIfInBounds_toArray, List.set_cons_zero, List.set_cons_succ]
  refine readsS_nil ?_
  have HBd : Hid (Below w.heap.size w w2.drew) := HB2.out.drew
  refine EffS_gen ?_
  intro a0 ha0
  have e22 : a0.eval (.tmp 22) = .int .i64 (n : Int) := by rw [ha0]; kernel_rfl
  have e24 : a0.eval (.tmp 24) = .slice A E.length c := by rw [ha0]; kernel_rfl
  have e27 : a0.eval (.tmp 27) = .slice B n d := by rw [ha0]; kernel_rfl
  have e29 : a0.eval (.tmp 29) = .slice B n d := by rw [ha0]; kernel_rfl
  have e33 : a0.eval (.tmp 33) = .int .i64 (n : Int) := by rw [ha0]; kernel_rfl
  have e36 : a0.eval (.tmp 36) = .int .i64 (n : Int) := by rw [ha0]; kernel_rfl
  have esz : 25 < a0.tmps.size := by rw [ha0]; simp
  refine ⟨?start, ?keep, ?step, ?fin⟩
  case start => exact ⟨Below.refl _ _, (fun h => by cases h), (fun h => by cases h), (fun h => by cases h), (fun h => by cases h), (fun h => by cases h), (fun h => by cases h), (fun h => by cases h), (fun h => by cases h)⟩
  case keep => intro done f w' hI; exact ⟨cell_later hI.bel b0', cell_later hI.bel b1'⟩
  case step =>
    intro i hnum done f w' hdone hdeps hI o ho
    simp only [numE, List.any_cons, List.any_nil, Bool.or_false, Bool.or_eq_true, beq_iff_eq] at hnum
    rcases hnum with rfl | rfl | rfl | rfl | rfl | rfl | rfl
    · obtain rfl := Option.some.inj ho
      refine does_call1 rfl rfl ((eval_other (by simp)).trans e24) EG.out.1 ?_
      refine (clone_arc A E.length c (arcc E) w' (arcs_row.1 ((Hr.out.below HBd.out).below hI.bel)) (fun i _ => by unfold arcc; split <;> rfl) (by omega)).mono ?_
      rintro e w3 ⟨v, rfl, ho', hb⟩
      exact ⟨v, rfl, (hI.grow hb).add4 hdone (own_mono ho' hI.bel.size)⟩
    · obtain rfl := Option.some.inj ho
      have h4 : done 4 = true := hdeps 4 (by simp)
      have e25 : (actE [(4, some 25), (5, some 26), (7, some 28), (9, some 30), (10, some 31), (13, some 34), (16, some 37)] done f a0).eval (.tmp 25) = f 4 := eval_done (by unfold sepE; simp) (by simp) h4 esz
      have e22' : (actE [(4, some 25), (5, some 26), (7, some 28), (9, some 30), (10, some 31), (13, some 34), (16, some 37)] done f a0).eval (.tmp 22) = .int .i64 (n : Int) := (eval_other (by simp)).trans e22
      have hI5 := hI.add5 h4 rfl
      obtain ⟨A4, c4, hf4, _, _, _⟩ := own_row (hI.i4 h4)
      rw [hf4] at e25 hI5
      generalize (actE [(4, some 25), (5, some 26), (7, some 28), (9, some 30), (10, some 31), (13, some 34), (16, some 37)] done f a0).eval = ρ at e22' e25 ⊢
      unfold OpDoes execOp
      simp [e22', e25, go_sem]
      exact hI5
    · obtain rfl := Option.some.inj ho
      have hb := HBd.out.trans (hI.bel.mono HBd.out.size)
      refine does_call1 rfl rfl ((eval_other (by simp)).trans e27) EG.out.2.1 ?_
      have hN := Hl.out.below hb
      have hcl := clone_int B n d (natc order) w' (by rw [← Hol.out]; exact hN) (fun _ _ => rfl) (by omega)
      refine hcl.mono ?_
      rintro e w3 ⟨v, rfl, ho', hb3⟩
      refine ⟨v, rfl, (hI.grow hb3).add7 (own_mono ?_ hI.bel.size)⟩
      have hm := range_map_nats order
      rw [Hol.out] at hm
      rw [hm] at ho'
      exact ho'
    · obtain rfl := Option.some.inj ho
      have hb := HBd.out.trans (hI.bel.mono HBd.out.size)
      refine does_call1 rfl rfl ((eval_other (by simp)).trans e29) EG.out.2.2 ?_
      refine (ranks_any n B order d w' (Hl.out.below hb) (by omega) Hol.out Hlt.out Hd.out).mono ?_
      rintro e w3 ⟨g, ranks, rfl, hp, hg, hblk, hb3⟩
      exact ⟨_, rfl, (hI.grow hb3).add9 ⟨g, ranks, rfl, hp, Nat.le_trans hI.bel.size hg, hblk⟩⟩
    · obtain rfl := Option.some.inj ho
      refine does_map rfl ?_
      exact (hI.grow (below_alloc' (Below.refl _ _) _)).add10 ⟨_, rfl, PMap.made w', hI.bel.size⟩
    · obtain rfl := Option.some.inj ho
      refine does_make rfl (by rw [(eval_other (by simp)).trans e33]; exact run_make_rows n (by omega) w') hI.add13
    · obtain rfl := Option.some.inj ho
      refine does_make rfl (by rw [(eval_other (by simp)).trans e36]; exact run_make_rows n (by omega) w') hI.add16
  case fin =>
    intro done f w' hall hI
    obtain ⟨_, h5⟩ := hI.i5 (hall (5, some 26) (by simp))
    have h4 := hI.i4 (hall (4, some 25) (by simp))
    obtain ⟨A4, c4, hf4, hc4, _, hR4⟩ := own_arcs h4
    have h7 := hI.i7 (hall (7, some 28) (by simp))
    rw [← Hol.out] at h7
    obtain ⟨A7, c7, hf7, hc7, _, hR7⟩ := own_nats h7
    obtain ⟨g9, ranks, hf9, hp, hg9, hb9⟩ := hI.i9 (hall (9, some 30) (by simp))
    obtain ⟨nb, hf10, hm10, hnb⟩ := hI.i10 (hall (10, some 31) (by simp))
    obtain ⟨gu, hf13, hgu, hbu⟩ := hI.i13 (hall (13, some 34) (by simp))
    obtain ⟨gd, hf16, hgd, hbd⟩ := hI.i16 (hall (16, some 37) (by simp))
    have hne := hI.ne (hall (13, some 34) (by simp)) (hall (16, some 37) (by simp))
    rw [hf4] at h5 h4
    rw [hf7] at h7
    rw [Hol.out] at hf7 h7
    rw [ha0]
    unfold putAll
    simp only [List.foldl_cons, List.foldl_nil, Act.put, List.setIfInBounds_toArray, List.set_cons_zero, List.set_cons_succ, h5, hf4, hf7, hf9, hf10, hf13, hf16]
    have c0' := cell_later hI.bel b0'
    have c1' := cell_later hI.bel b1'
    refine chainS_step rfl (fun K hK => ?_)
    go_simp
    refine hK.out _ _ ⟨c0', c1'⟩ ?_
    clear hK K
    try simp only [Act.put, List.setIfInBounds_toArray, List.set_cons_zero, List.set_cons_succ]
    refine chainS_step rfl (fun K hK => ?_)
    go_simp
    have hba : Below w'.heap.size w' (w'.alloc (.cells (hcells (hdOf n E order ranks []) A4 c4 A7 c7 (some ⟨g9, 0, none⟩) n (.slice none 0 0) nb gu gd) 115)) := below_alloc' (Below.refl _ _) _
    refine hK.out _ _ ⟨cell_later hba c0', cell_later hba c1'⟩ ?_
    clear hK K
    try simp only [Act.put, List.setIfInBounds_toArray, List.set_cons_zero, List.set_cons_succ]
    refine chainS_last rfl (fun K hK => ?_)
    go_simp
    refine hK.out _ _ (NoPanic.normal ?_)
    clear hK K
    obtain ⟨es, k, hmap⟩ := hm10.isMap
    have nud : gu ≠ gd := fun e => hne (by rw [hf13, hf16, e])
    have num : gu ≠ nb := cells_ne_map hbu hmap
    have ndm : gd ≠ nb := cells_ne_map hbd hmap
    have lu := blk_lt' hbu
    have ld := blk_lt' hbd
    have lm := blk_lt' hmap
    have H : HOwn (w'.alloc (.cells (hcells (hdOf n E order ranks []) A4 c4 A7 c7 (some ⟨g9, 0, none⟩) n (.slice none 0 0) nb gu gd) 115)) (labH n gu gd w'.heap.size nb) w2.drew.heap.size w'.heap.size (hdOf n E order ranks []) A4 c4 A7 c7 (some ⟨g9, 0, none⟩) n (.slice none 0 0) nb gu gd := {
      base_le := hI.bel.size
      base_nb := hnb
      labh := by
        have n1 : w'.heap.size ≠ gu := by omega
        have n2 : w'.heap.size ≠ gd := by omega
        simp [labH, n1, n2]
      labnb := by
        have n1 : nb ≠ gu := fun e => num e.symm
        have n2 : nb ≠ gd := fun e => ndm e.symm
        have n3 : nb ≠ w'.heap.size := by omega
        simp [labH, n1, n2, n3]
      blk := new_blk w' _ _
      capa := hc4
      capo := by show n ≤ c7; have := Hol.out; omega
      capr := Nat.le_refl _
      roa := ro_own h4 hba.size (Nat.le_refl _) hbu hbd hmap (by decide)
      roo := ro_own h7 hba.size (Nat.le_refl _) hbu hbd hmap (by decide)
      ror := fun ad e => by
        cases e
        have n1 : g9 ≠ gu := cells_ne hb9 hbu (by decide)
        have n2 : g9 ≠ gd := cells_ne hb9 hbd (by decide)
        have n3 : g9 ≠ nb := cells_ne_map hb9 hmap
        have n4 := blk_lt' hb9
        exact ⟨Nat.lt_of_lt_of_le n4 hba.size, by rw [labH_0 n1 n2 (by show g9 ≠ w'.heap.size; omega) n3]⟩
      arcs := hR4.below hba
      order := hR7.below hba
      ranks := (blk_nats hb9).below hba
      edges := World.ownsRow_nil _ _ _ _
      labe := fun k hk => by simp [Value.ownBlock] at hk
      num := hm10.below hba
      up := by
        have := TabAt.made (lab := labH n gu gd w'.heap.size nb) (c := 1) hgu (by simp [labH]) (blk_below hbu hba)
        have e : (hdOf n E order ranks []).up = List.replicate n [] := by
          show (List.range n).map (upOf []) = _
          apply List.ext_getElem
          · simp
          · intro i h1 h2; simp [upOf]
        rw [e]; exact this
      down := by
        have nn : gd ≠ gu := fun e => nud e.symm
        have := TabAt.made (lab := labH n gu gd w'.heap.size nb) (c := 2) hgd (by simp [labH, nn]) (blk_below hbd hba)
        have e : (hdOf n E order ranks []).down = List.replicate n [] := by
          show (List.range n).map (downOf []) = _
          apply List.ext_getElem
          · simp
          · intro i h1 h2; simp [downOf]
        rw [e]; exact this }
    have HH := hid H
    have Hp := hid hp
    have HBa := hid (HBd.out.trans ((hI.bel.mono HBd.out.size).trans (hba.mono (Nat.le_trans HBd.out.size hI.bel.size))))
    have HhB : Hid (w.heap.size ≤ w'.heap.size) := Nat.le_trans HBd.out.size hI.bel.size
    have hsB : Hid (w.heap.size ≤ w2.drew.heap.size) := HBd.out.size
    clear H hp hba hmap nud num ndm lu ld lm hne hf16 hf13 hf10 hf9 hf7 hf4 h5 h4 h7 hR4 hR7 hb9 hm10 hbu hbd c0' c1' b0' b1' b0 b1 hI e22 e24 e27 e29 e33 e36 esz ha0 hgu hgd hnb
    go_wp2_with fail
    refine (eliminate_any HH.out Hp.out HE.out hn he).mono ?_
    rintro e w9 ⟨lab9, rows, ve9, rfl, hel, hH, hb9⟩
    have Hel := hid hel
    have HH9 := hid hH
    have HB9 := hid (HBa.out.trans (hb9.mono hsB.out))
    clear hel hH hb9
    go_wp2
    go_ret2
    exact ⟨_, ranks, rows, rfl, Hp.out, Hel.out, HH9.out.hier (Hel.out.ok Hp.out hn HE.out he), HhB.out, HB9.out⟩

end Go.Proofs.Ytpfjannhggcmiaa
