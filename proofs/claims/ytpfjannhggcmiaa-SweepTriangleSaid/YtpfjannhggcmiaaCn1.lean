/- Contract of custom.New: first part, the metric under construction. -/
import Derived.Test.YtpfjannhggcmiaaWt3
import Derived.Test.YtpfjannhggcmiaaCs
namespace Go.Proofs.Ytpfjannhggcmiaa
open Go.RowKit Go.Maps

/-! ### effects that make something new -/
/-- Some of the effects are done: each has left a value that is good for something and (perhaps) stands in a block of its own. -/
structure FrI (W0 : World) (T : Nat → Value → World → Prop) (done : Nat → Bool) (f : Nat → Value) (w : World) : Prop where
  bel : Below W0.heap.size W0 w
  val : ∀ i, done i = true → T i (f i) w
  blk : ∀ i, done i = true → ∀ k, (f i).ownBlock = some k → W0.heap.size ≤ k ∧ k < w.heap.size
  ne : ∀ i j, i ≠ j → done i = true → done j = true → ∀ k, (f i).ownBlock = some k → (f j).ownBlock ≠ some k
theorem FrI.start (W0 : World) (T : Nat → Value → World → Prop) (f : Nat → Value) : FrI W0 T (fun _ => false) f W0 :=
  ⟨Below.refl _ _, (fun i h => by cases h), (fun i h => by cases h), (fun i j _ h => by cases h)⟩
theorem FrI.add {W0 w w' : World} {T : Nat → Value → World → Prop} {done : Nat → Bool} {f : Nat → Value} (h : FrI W0 T done f w) (hT : ∀ i v w w', T i v w → Below w.heap.size w w' → T i v w') (i : Nat) {u : Value} (hb : Below w.heap.size w w') (hv : T i u w')
    (hk : ∀ k, u.ownBlock = some k → w.heap.size ≤ k ∧ k < w'.heap.size) : FrI W0 T (setD done i) (setF f i u) w' := by
  have hs := h.bel.size
  have hs2 := hb.size
  have old : ∀ j, setD done i j = true → j ≠ i → done j = true := fun j hj hne => by simpa [setD, hne] using hj
  have e1 : setF f i u i = u := by simp [setF]
  have e2 : ∀ j, j ≠ i → setF f i u j = f j := fun j hj => by simp [setF, hj]
  refine ⟨below_then' h.bel hb, fun j hj => ?_, fun j hj k hk' => ?_, fun j l hjl hj hl k hk' => ?_⟩
  · by_cases e : j = i
    · subst e; rw [e1]; exact hv
    · rw [e2 j e]; exact hT _ _ _ _ (h.val j (old j hj e)) hb
  · by_cases e : j = i
    · subst e; rw [e1] at hk'; have := hk k hk'; omega
    · rw [e2 j e] at hk'; have := h.blk j (old j hj e) k hk'; omega
  · by_cases e : j = i
    · subst e
      rw [e1] at hk'
      rw [e2 l (Ne.symm hjl)]
      intro h2
      have := hk k hk'
      have := h.blk l (old l hl (Ne.symm hjl)) k h2
      omega
    · rw [e2 j e] at hk'
      by_cases e3 : l = i
      · subst e3
        rw [e1]
        intro h2
        have := hk k h2
        have := h.blk j (old j hj e) k hk'
        omega
      · rw [e2 l e3]
        exact h.ne j l hjl (old j hj e) (old l hl e3) k hk'
/-- A slice over a whole block of numbers. -/
def WholeI (v : Value) (xs : List Int) (w : World) : Prop := ∃ g, v = .slice (some ⟨g, 0, none⟩) xs.length xs.length ∧ w.heap[g]? = some (.cells (xs.map intv).toArray 3 (0, 0))
theorem WholeI.below {v : Value} {xs : List Int} {w w' : World} (h : WholeI v xs w) (hb : Below w.heap.size w w') : WholeI v xs w' := by
  obtain ⟨g, h1, h2⟩ := h; exact ⟨g, h1, blk_below h2 hb⟩
def WholeT (v : Value) (k : Nat) (w : World) : Prop := ∃ g, v = .slice (some ⟨g, 0, none⟩) k k ∧ w.heap[g]? = some (.cells (Array.replicate k (.slice none 0 0)) 25 (0, 0))
theorem WholeT.below {v : Value} {k : Nat} {w w' : World} (h : WholeT v k w) (hb : Below w.heap.size w w') : WholeT v k w' := by
  obtain ⟨g, h1, h2⟩ := h; exact ⟨g, h1, blk_below h2 hb⟩

/-! ### the metric under construction -/
structure MOwn (w : World) (lab : Lab) (base m h gw ga gu gd : Nat) (ws : List Int) (rows : List (List Nat)) (us ds : List Int) : Prop where
  base_le : base ≤ m ∧ base ≤ gw ∧ base ≤ gu ∧ base ≤ gd
  labm : lab m = (4, 0)
  labw : lab gw = (4, 1)
  labu : lab gu = (2, 0)
  labd : lab gd = (3, 0)
  blk : w.heap[m]? = some (.cells #[.pointer (some ⟨h, 0, none⟩), .slice (some ⟨gw, 0, none⟩) ws.length ws.length, .slice (some ⟨ga, 0, none⟩) rows.length rows.length, .slice (some ⟨gu, 0, none⟩) us.length us.length, .slice (some ⟨gd, 0, none⟩) ds.length ds.length] 119 (0, 0))
  wb : w.heap[gw]? = some (.cells (ws.map intv).toArray 3 (0, 0))
  tab : TabAt w lab 1 base ga rows
  ub : w.heap[gu]? = some (.cells (us.map intv).toArray 3 (0, 0))
  db : w.heap[gd]? = some (.cells (ds.map intv).toArray 3 (0, 0))

section
variable {w w' : World} {lab : Lab} {base m h gw ga gu gd : Nat} {ws us ds : List Int} {rows : List (List Nat)}
theorem MOwn.below (H : MOwn w lab base m h gw ga gu gd ws rows us ds) (hb : Below w.heap.size w w') : MOwn w' lab base m h gw ga gu gd ws rows us ds :=
  ⟨H.base_le, H.labm, H.labw, H.labu, H.labd, blk_below H.blk hb, blk_below H.wb hb, H.tab.frame (fun k hk _ => hb.block k hk) (fun _ _ => rfl), blk_below H.ub hb, blk_below H.db hb⟩
theorem MOwn.met {D : HD} (H : MOwn w lab base m h gw ga gu gd ws rows us ds) (hh : HierAt w h D) (hok : MD.ok ⟨D, ws, rows, us, ds⟩) : MetAt w m h ⟨D, ws, rows, us, ds⟩ :=
  ⟨hh, hok, _, _, _, _, _, _, _, _, H.blk, ⟨Nat.le_refl _, Nat.le_refl _, Nat.le_refl _, Nat.le_refl _⟩, blk_ints H.wb, H.tab.lists, blk_ints H.ub, blk_ints H.db⟩
theorem map_set_intv (us : List Int) (i : Nat) (u : Int) : (us.map intv).toArray.setIfInBounds i (intv u) = ((us.set i u).map intv).toArray := by
  rw [List.setIfInBounds_toArray, List.map_set]
theorem MOwn.setu (H : MOwn w lab base m h gw ga gu gd ws rows us ds) (i : Nat) (u : Int) : MOwn (w.setCell ⟨gu, i, none⟩ (.int .i64 u)) lab base m h gw ga gu gd ws rows (us.set i u) ds := by
  have n1 : m ≠ gu := by rintro e; have := H.labm; rw [e, H.labu] at this; cases this
  have n2 : gw ≠ gu := by rintro e; have := H.labw; rw [e, H.labu] at this; cases this
  have n3 : gd ≠ gu := by rintro e; have := H.labd; rw [e, H.labu] at this; cases this
  refine ⟨H.base_le, H.labm, H.labw, H.labu, H.labd, by rw [List.length_set]; exact blk_far' H.blk n1 _, blk_far' H.wb n2 _, H.tab.frame (fun k _ hk => Below.heap_setCell w _ _ k ?_) (fun _ _ => rfl), ?_, blk_far' H.db n3 _⟩
  · rintro rfl; rw [H.labu] at hk; cases hk
  · have := blk_set' H.ub i (.int .i64 u)
    rw [show (Value.int .i64 u) = intv u from rfl, map_set_intv] at this
    exact this
theorem MOwn.setd (H : MOwn w lab base m h gw ga gu gd ws rows us ds) (i : Nat) (u : Int) : MOwn (w.setCell ⟨gd, i, none⟩ (.int .i64 u)) lab base m h gw ga gu gd ws rows us (ds.set i u) := by
  have n1 : m ≠ gd := by rintro e; have := H.labm; rw [e, H.labd] at this; cases this
  have n2 : gw ≠ gd := by rintro e; have := H.labw; rw [e, H.labd] at this; cases this
  have n3 : gu ≠ gd := by rintro e; have := H.labu; rw [e, H.labd] at this; cases this
  refine ⟨H.base_le, H.labm, H.labw, H.labu, H.labd, by rw [List.length_set]; exact blk_far' H.blk n1 _, blk_far' H.wb n2 _, H.tab.frame (fun k _ hk => Below.heap_setCell w _ _ k ?_) (fun _ _ => rfl), blk_far' H.ub n3 _, ?_⟩
  · rintro rfl; rw [H.labd] at hk; cases hk
  · have := blk_set' H.db i (.int .i64 u)
    rw [show (Value.int .i64 u) = intv u from rfl, map_set_intv] at this
    exact this
/-- One more arc in a row of the table. -/
theorem MOwn.app {W' w2 : World} {i x : Nat} {v v' : Value} (H : MOwn w lab base m h gw ga gu gd ws rows us ds) (hb : Below w.heap.size w W') (hi : i < rows.length) (hc : w.cell? ⟨ga, i, none⟩ = some v) (hg : W'.grownBy w2 v.ownBlock)
    (hown : w2.ownsRow base 3 1 v' ((rows.getD i []).length + 1) ((rows.getD i []).map natv ++ [natv x])) (hloc : v'.ownBlock = v.ownBlock ∨ ∃ k, v'.ownBlock = some k ∧ W'.heap.size ≤ k) :
    ∃ lab', MOwn (w2.setCell ⟨ga, i, none⟩ v') lab' base m h gw ga gu gd ws (rows.set i (rows.getD i [] ++ [x])) us ds := by
  have H' := H.below hb
  obtain ⟨v0, hv0, ho0, hl0, hne0⟩ := H.tab.at_ hi
  rw [hc] at hv0
  cases hv0
  have old := relab_old (w := w) (lab := lab) (c := 1) (i := i) (v := v) (v' := v') (hloc.imp id (fun ⟨k, h1, h2⟩ => ⟨k, h1, Nat.le_trans hb.size h2⟩)) hl0
  have ga1 : (lab ga).1 = 1 := by obtain ⟨_, h2, _⟩ := H.tab; rw [h2]
  have far : ∀ k o, W'.heap[k]? = some o → (lab k).1 ≠ 1 → (w2.setCell ⟨ga, i, none⟩ v').heap[k]? = some o := fun k o hk hlab => by
    have h1 : k ≠ ga := by rintro rfl; exact hlab ga1
    have h2 : some k ≠ v.ownBlock := fun e => hlab (by rw [hl0 k e.symm])
    exact blk_far' (blk_grown hk hg h2) h1 _
  refine ⟨relab lab v' 1 i, H.base_le, (old m (blk_lt' H.blk)).trans H.labm, (old gw (blk_lt' H.wb)).trans H.labw, (old gu (blk_lt' H.ub)).trans H.labu, (old gd (blk_lt' H.db)).trans H.labd, ?_, far gw _ H'.wb (by rw [H.labw]; decide), H.tab.app hb hi hc hg hown hloc, far gu _ H'.ub (by rw [H.labu]; decide), far gd _ H'.db (by rw [H.labd]; decide)⟩
  rw [List.length_set]
  exact far m _ H'.blk (by rw [H.labm]; decide)
end

/-! ### plain: the arcs of the edges, one after another; the weights, one after another -/
def arcsUp (D : HD) (k : Nat) : List (List Nat) := (List.range D.edges.length).map fun e => (List.range k).filter fun i => decide (D.find (D.arcs.getD i (0, 0)).1 (D.arcs.getD i (0, 0)).2 = some e)
theorem arcsUp_len (D : HD) (k : Nat) : (arcsUp D k).length = D.edges.length := by simp [arcsUp]
theorem arcsUp_getD (D : HD) (k : Nat) {e : Nat} (he : e < D.edges.length) : (arcsUp D k).getD e [] = (List.range k).filter fun i => decide (D.find (D.arcs.getD i (0, 0)).1 (D.arcs.getD i (0, 0)).2 = some e) := by
  unfold arcsUp; rw [List.getD_eq_getElem?_getD, List.getElem?_map, List.getElem?_range he]; rfl
theorem arcsUp_all (D : HD) : arcsUp D D.arcs.length = arcsOf D := rfl
theorem arcsUp_zero (D : HD) : arcsUp D 0 = List.replicate D.edges.length [] := by
  unfold arcsUp
  apply List.ext_getElem
  · simp
  · intro i h1 h2; simp
theorem ext_getD {α : Type} {L M : List α} (d : α) (hl : L.length = M.length) (h : ∀ i, i < L.length → L.getD i d = M.getD i d) : L = M := by
  apply List.ext_getElem hl
  intro i h1 h2
  have := h i h1
  simpa [List.getD, h1, h2] using this
theorem arcsUp_none (D : HD) {k : Nat} (h : D.find (D.arcs.getD k (0, 0)).1 (D.arcs.getD k (0, 0)).2 = none) : arcsUp D (k + 1) = arcsUp D k := by
  refine ext_getD [] (by rw [arcsUp_len, arcsUp_len]) (fun e he => ?_)
  rw [arcsUp_len] at he
  rw [arcsUp_getD D _ he, arcsUp_getD D _ he, List.range_succ, List.filter_append]
  rw [show [k].filter (fun i => decide (D.find (D.arcs.getD i (0, 0)).1 (D.arcs.getD i (0, 0)).2 = some e)) = [] from List.filter_eq_nil_iff.2 (fun x hx => by
    have : x = k := by simpa using hx
    subst this
    rw [h]; simp), List.append_nil]
theorem arcsUp_some (D : HD) {k e : Nat} (h : D.find (D.arcs.getD k (0, 0)).1 (D.arcs.getD k (0, 0)).2 = some e) (he : e < D.edges.length) : arcsUp D (k + 1) = (arcsUp D k).set e ((arcsUp D k).getD e [] ++ [k]) := by
  refine ext_getD [] (by rw [List.length_set, arcsUp_len, arcsUp_len]) (fun e' he' => ?_)
  rw [arcsUp_len] at he'
  rw [arcsUp_getD D _ he', List.range_succ, List.filter_append]
  by_cases e1 : e = e'
  · subst e1
    rw [getD_set_self _ _ _ _ (by rw [arcsUp_len]; exact he), arcsUp_getD D _ he]
    congr 1
    simp only [List.filter_cons, List.filter_nil, h]
    simp
  · rw [getD_set_ne _ _ _ _ _ e1, arcsUp_getD D _ he']
    rw [show [k].filter (fun i => decide (D.find (D.arcs.getD i (0, 0)).1 (D.arcs.getD i (0, 0)).2 = some e')) = [] from List.filter_eq_nil_iff.2 (fun x hx => by
      have : x = k := by simpa using hx
      subst this
      rw [h]
      have : ¬ some e = some e' := fun h => e1 (by simpa using h)
      simpa using this), List.append_nil]

/-- The first k edges have their weights; all others weigh 0. -/
structure Part2 (D : HD) (ws : List Int) (k : Nat) (us ds : List Int) : Prop where
  ul : us.length = D.edges.length
  dl : ds.length = D.edges.length
  least : ∀ e, e < k → Least (upC ⟨D, ws, arcsOf D, us, ds⟩ e) (us.getD e 0) ∧ Least (downC ⟨D, ws, arcsOf D, us, ds⟩ e) (ds.getD e 0)
  zero : ∀ e, k ≤ e → us.getD e 0 = 0 ∧ ds.getD e 0 = 0
theorem Part2.rng {D : HD} {ws : List Int} {k : Nat} {us ds : List Int} (h : Part2 D ws k us ds) (i : Nat) : (0 ≤ us.getD i 0 ∧ us.getD i 0 ≤ INF) ∧ (0 ≤ ds.getD i 0 ∧ ds.getD i 0 ≤ INF) := by
  by_cases e : i < k
  · have := h.least i e
    exact ⟨⟨this.1.nonneg, this.1.le_inf⟩, ⟨this.2.nonneg, this.2.le_inf⟩⟩
  · have := h.zero i (by omega)
    have hI : (0 : Int) ≤ INF := by decide
    omega
theorem Part2.start (D : HD) (ws : List Int) : Part2 D ws 0 (List.replicate D.edges.length 0) (List.replicate D.edges.length 0) := by
  have hz : ∀ i, (List.replicate D.edges.length (0 : Int)).getD i 0 = 0 := fun i => by
    rw [List.getD_eq_getElem?_getD, List.getElem?_replicate]
    split <;> rfl
  exact ⟨by simp, by simp, fun e he => by omega, fun e _ => ⟨hz e, hz e⟩⟩
theorem edAB_lt {n : Nat} {E : List (Nat × Nat)} {order ranks : List Nat} {edges : List (Nat × Nat)} (hg : HG n E order ranks edges) {M : MD} (hM : M.h = hdOf n E order ranks edges) {e y : Nat} (he : e < edges.length) (hy : y ∈ M.h.lower e) : edA M e y < e ∧ edB M e y < e := by
  rw [hM, mem_lower hg he] at hy
  have hm := edge_mem he
  have l1 := hg.lt _ _ hy.1
  have l2 := hg.lt _ _ hy.2
  have b1 := hg.before hy.1 hm l1.2.2
  have b2 := hg.before hy.2 hm l1.2.2
  have hid' : edges.idxOf ((edges.getD e (0, 0)).1, (edges.getD e (0, 0)).2) = e := hg.idx he
  rw [hid'] at b1 b2
  unfold edA edB
  rw [hM]
  constructor
  · show ((hdOf n E order ranks edges).find y ((edges.getD e (0, 0))).1).getD 0 < e
    rw [find_hd hg, if_neg (by omega), numOf_mem hy.1]
    exact b1
  · show ((hdOf n E order ranks edges).find y ((edges.getD e (0, 0))).2).getD 0 < e
    rw [find_hd hg, if_neg (by omega), numOf_mem hy.2]
    exact b2
theorem cand_set {n : Nat} {E : List (Nat × Nat)} {order ranks : List Nat} {edges : List (Nat × Nat)} (hg : HG n E order ranks edges) (ws : List Int) (A : List (List Nat)) (us ds : List Int) {e k : Nat} (he : e ≤ k) (hk : k < edges.length) (u d : Int) (x : Int) :
    (upC ⟨hdOf n E order ranks edges, ws, A, us, ds⟩ e x ↔ upC ⟨hdOf n E order ranks edges, ws, A, us.set k u, ds.set k d⟩ e x) ∧ (downC ⟨hdOf n E order ranks edges, ws, A, us, ds⟩ e x ↔ downC ⟨hdOf n E order ranks edges, ws, A, us.set k u, ds.set k d⟩ e x) := by
  have key : ∀ j, j < ((hdOf n E order ranks edges).lower e).length →
      edA ⟨hdOf n E order ranks edges, ws, A, us, ds⟩ e (((hdOf n E order ranks edges).lower e).getD j 0) ≠ k ∧ edB ⟨hdOf n E order ranks edges, ws, A, us, ds⟩ e (((hdOf n E order ranks edges).lower e).getD j 0) ≠ k := fun j hj => by
    have := edAB_lt hg (M := ⟨hdOf n E order ranks edges, ws, A, us, ds⟩) rfl (by omega) (getD_mem2 (d := 0) hj)
    exact ⟨Nat.ne_of_lt (Nat.lt_of_lt_of_le this.1 he), Nat.ne_of_lt (Nat.lt_of_lt_of_le this.2 he)⟩
  constructor
  · unfold upC
    refine or_congr Iff.rfl ?_
    unfold triUp
    refine exists_congr fun j => and_congr_right fun hj => ?_
    obtain ⟨k1, k2⟩ := key j hj
    show x = over (ds.getD (edA ⟨hdOf n E order ranks edges, ws, A, us, ds⟩ e (((hdOf n E order ranks edges).lower e).getD j 0)) 0) (us.getD (edB ⟨hdOf n E order ranks edges, ws, A, us, ds⟩ e (((hdOf n E order ranks edges).lower e).getD j 0)) 0) ↔ x = over ((ds.set k d).getD (edA ⟨hdOf n E order ranks edges, ws, A, us, ds⟩ e (((hdOf n E order ranks edges).lower e).getD j 0)) 0) ((us.set k u).getD (edB ⟨hdOf n E order ranks edges, ws, A, us, ds⟩ e (((hdOf n E order ranks edges).lower e).getD j 0)) 0)
    rw [getD_set_other _ _ _ _ (Ne.symm k1), getD_set_other _ _ _ _ (Ne.symm k2)]
  · unfold downC
    refine or_congr Iff.rfl ?_
    unfold triDown
    refine exists_congr fun j => and_congr_right fun hj => ?_
    obtain ⟨k1, k2⟩ := key j hj
    show x = over (ds.getD (edB ⟨hdOf n E order ranks edges, ws, A, us, ds⟩ e (((hdOf n E order ranks edges).lower e).getD j 0)) 0) (us.getD (edA ⟨hdOf n E order ranks edges, ws, A, us, ds⟩ e (((hdOf n E order ranks edges).lower e).getD j 0)) 0) ↔ x = over ((ds.set k d).getD (edB ⟨hdOf n E order ranks edges, ws, A, us, ds⟩ e (((hdOf n E order ranks edges).lower e).getD j 0)) 0) ((us.set k u).getD (edA ⟨hdOf n E order ranks edges, ws, A, us, ds⟩ e (((hdOf n E order ranks edges).lower e).getD j 0)) 0)
    rw [getD_set_other _ _ _ _ (Ne.symm k1), getD_set_other _ _ _ _ (Ne.symm k2)]
theorem Part2.step {n : Nat} {E : List (Nat × Nat)} {order ranks : List Nat} {edges : List (Nat × Nat)} (hg : HG n E order ranks edges) {ws us ds : List Int} {k : Nat} (h : Part2 (hdOf n E order ranks edges) ws k us ds) (hk : k < edges.length) {u d : Int}
    (hu : Least (upC ⟨hdOf n E order ranks edges, ws, arcsOf (hdOf n E order ranks edges), us, ds⟩ k) u) (hd : Least (downC ⟨hdOf n E order ranks edges, ws, arcsOf (hdOf n E order ranks edges), us, ds⟩ k) d) :
    Part2 (hdOf n E order ranks edges) ws (k + 1) (us.set k u) (ds.set k d) where
  ul := by rw [List.length_set]; exact h.ul
  dl := by rw [List.length_set]; exact h.dl
  least := fun e he => by
    have hl : us.length = edges.length := h.ul
    have hl2 : ds.length = edges.length := h.dl
    by_cases e1 : e = k
    · subst e1
      rw [getD_set_same _ _ _ (by omega), getD_set_same _ _ _ (by omega)]
      exact ⟨hu.congr (fun x => (cand_set hg ws _ us ds (Nat.le_refl _) hk u d x).1), hd.congr (fun x => (cand_set hg ws _ us ds (Nat.le_refl _) hk u d x).2)⟩
    · rw [getD_set_other _ _ _ _ (Ne.symm e1), getD_set_other _ _ _ _ (Ne.symm e1)]
      have := h.least e (by omega)
      exact ⟨this.1.congr (fun x => (cand_set hg ws _ us ds (by omega) hk u d x).1), this.2.congr (fun x => (cand_set hg ws _ us ds (by omega) hk u d x).2)⟩
  zero := fun e he => by
    rw [getD_set_other _ _ _ _ (by omega), getD_set_other _ _ _ _ (by omega)]
    exact h.zero e (by omega)

theorem find_none {h : Nat} {D : HD} (u v : Nat) {w : World} (H : HierAt w h D) (hu : u < D.n) (hv : v < D.n) (hf : D.find u v = none) :
    Calls Try.prog 75 #[.pointer (some ⟨h, 0, none⟩), .int .i64 u, .int .i64 v] w fun e w' => e = .returned (.tuple #[.int .i64 0, .bool false]) ∧ Below w.heap.size w w' :=
  (find_any u v H hu hv).mono fun e w' ⟨h1, h2⟩ => ⟨by rw [h1, hf]; rfl, h2⟩
theorem find_some {h : Nat} {D : HD} (u v : Nat) {w : World} (H : HierAt w h D) (hu : u < D.n) (hv : v < D.n) {x : Nat} (hf : D.find u v = some x) :
    Calls Try.prog 75 #[.pointer (some ⟨h, 0, none⟩), .int .i64 u, .int .i64 v] w fun e w' => e = .returned (.tuple #[.int .i64 (x : Int), .bool true]) ∧ Below w.heap.size w w' :=
  (find_any u v H hu hv).mono fun e w' ⟨h1, h2⟩ => ⟨by rw [h1, hf]; rfl, h2⟩
theorem arcsOf_ok {D : HD} {e : Nat} (he : e < D.edges.length) : ((arcsOf D).getD e []).length ≤ D.arcs.length ∧ ∀ i, i < ((arcsOf D).getD e []).length → ((arcsOf D).getD e []).getD i 0 < D.arcs.length := by
  rw [arcsOf_getD D he]
  refine ⟨Nat.le_trans (List.length_filter_le _ _) (by simp), fun i hi => ?_⟩
  have := getD_mem2 (d := 0) hi
  have := (List.mem_filter.1 this).1
  simpa using this
theorem md_ok {D : HD} (hD : D.ok) {ws us ds : List Int} (hw : ws.length = D.arcs.length) (hu : us.length = D.edges.length) (hd : ds.length = D.edges.length) : MD.ok ⟨D, ws, arcsOf D, us, ds⟩ where
  h_ok := hD
  w_len := hw
  arcs_len := by show (arcsOf D).length = _; simp [arcsOf]
  up_len := hu
  down_len := hd
  arc_lt := fun e he i hi => (arcsOf_ok he).2 i hi

end Go.Proofs.Ytpfjannhggcmiaa
