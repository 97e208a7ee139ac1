/- Contracts: the reference's reversed graph, distances to a vertex, errors, and comparisons. -/
import Derived.Test.YtpfjannhggcmiaaRef2
namespace Go.Proofs.Ytpfjannhggcmiaa
open Go.RowKit Go.Maps

/-! ### append of one element at a step of a region that draws its order -/
theorem step_app1 {w : World} {ops : Array Oper} {o : Oper} {a : Act} {K : Act → World → Prop} {Q : Exit → Act → World → Prop} {E : Prop} (hgd : o.guard = none) (s x : Operand) (t e : TypeId) (z : Value) (size bytes : Nat)
    (ho : o.op = .call { callee := .builtin .append, args := #[s, x], argTypes := #[t, t] })
    (ht : Try.prog.underlying t = some (.slice e)) (hinfo : (Try.prog.info? e).map (fun i => (i.zero, i.size, i.bytes)) = some (some z, size, bytes)) (hzs : z.cells.size = size) (hsz : 0 < size)
    (base n B : Nat) (v : Value) (xs cs : List Value) (hs : a.eval s = v) (hx : a.eval x = .slice (some ⟨B, 0, none⟩) 1 1) (hB : w.heap[B]? = some (.cells cs.toArray e (0, 0))) (hown : w.ownsRow base e size v n xs)
    (hcs : cs.length = size) (h1 : ∀ u ∈ cs, u.oneCell' = true) (h63 : n < 9223372036854775807) (hbytes : (n + 1) * bytes ≤ 140737488355328) (hbase : base ≤ w.heap.size)
    (h : ∀ v' w', w'.ownsRow base e size v' (n + 1) (xs ++ cs) → w.grownBy w' v.ownBlock → (v'.ownBlock = v.ownBlock ∨ ∃ k, v'.ownBlock = some k ∧ w.heap.size ≤ k) → K (a.put o.dst v') w') :
    if Region.wanted o (yielded ops a.tmps) = true then Oper.wp Try.prog o a w K Q else E := by
  obtain ⟨i0, hi, hz0, hz1, hz2⟩ := info_parts hinfo
  have hw : Region.wanted o (yielded ops a.tmps) = true := by simp [Region.wanted, hgd]
  rw [if_pos hw]
  obtain ⟨v', w', hr, h2, h3, h4, h5⟩ := run_append_own_at (P := Try.prog) w base t o.type e i0 z size bytes ht hi hz0 hz1 hz2 hzs hsz v n xs hown ⟨B, 0, none⟩ 1 1 cs (by omega) (World.news_of_block hB) h1 (by unfold maxLen; omega) hbytes hbase
  unfold Oper.wp execOp
  simp only [ho, resolve, invoke, builtin, Sem.run_bind, Sem.run_pure, Result.andThen_ok, List.map_toArray, List.map_cons, List.map_nil, hs, hx, hr]
  refine h v' w' h2 h3 ?_
  rcases h5 with h5 | h5
  · exact .inl h5
  · exact .inr ⟨_, h5, Nat.le_refl _⟩

def swapE (E : List (Nat × Nat)) : List (Nat × Nat) := E.map fun p => (p.2, p.1)
theorem swapE_getD (E : List (Nat × Nat)) (k : Nat) : (swapE E).getD k (0, 0) = ((E.getD k (0, 0)).2, (E.getD k (0, 0)).1) := by
  unfold swapE
  by_cases h : k < E.length
  · simp [List.getD, h]
  · simp [List.getD, h]
theorem swapE_length (E : List (Nat × Nat)) : (swapE E).length = E.length := by simp [swapE]
theorem GraphOk.swap {n : Nat} {E : List (Nat × Nat)} {ws : List Int} (h : GraphOk n E ws) : GraphOk n (swapE E) ws where
  n_le := h.n_le
  e_le := by rw [swapE_length]; exact h.e_le
  ends := fun i hi => by rw [swapE_length] at hi; rw [swapE_getD]; have := h.ends i hi; exact ⟨this.2, this.1⟩
  w_len := by rw [swapE_length]; exact h.w_len
  w_ok := h.w_ok
/-- The cells of arcs. -/
def arcv (p : Nat × Nat) : List Value := [.int .i64 (p.1 : Int), .int .i64 (p.2 : Int)]
theorem flat_at (xs : List (Nat × Nat)) : ∀ i, i < xs.length → (xs.flatMap arcv)[i * 2]? = some (.int .i64 (((xs.getD i (0, 0)).1 : Nat) : Int)) ∧ (xs.flatMap arcv)[i * 2 + 1]? = some (.int .i64 (((xs.getD i (0, 0)).2 : Nat) : Int)) := by
  induction xs with
  | nil => intro i h; simp at h
  | cons p xs ih =>
    intro i h
    cases i with
    | zero => simp [arcv]
    | succ i =>
      have := ih i (by simpa using h)
      have e1 : (i + 1) * 2 = i * 2 + 1 + 1 := by omega
      rw [e1]
      simpa [arcv] using this
theorem own_arcs' {w : World} {base : Nat} {e : TypeId} {v : Value} {xs : List (Nat × Nat)} (h : w.ownsRow base e 2 v xs.length (xs.flatMap arcv)) :
    ∃ A c, v = .slice A xs.length c ∧ xs.length ≤ c ∧ Fresh base A ∧ Arcs w A xs := by
  obtain ⟨A, c, hv, hc, hf, hr⟩ := own_row h
  refine ⟨A, c, hv, hc, hf, ?_⟩
  rcases hr with h0 | ⟨b, o, hA, hb, hcell⟩
  · exact .inl (by omega)
  · refine .inr ⟨b, o, hA, hb, fun i hi => ?_⟩
    have := flat_at xs i hi
    refine ⟨(hcell (i * 2) (by omega)).trans ?_, (hcell (i * 2 + 1) (by omega)).trans ?_⟩
    · simp only [List.getD, this.1]; rfl
    · simp only [List.getD, this.2]; rfl
theorem own_far {w : World} {base n size b : Nat} {e : TypeId} {v : Value} {xs : List Value} (h : w.ownsRow base e size v n xs) (hb : b < base) : some b ≠ v.ownBlock := fun e => by have := h.lt b e.symm; omega
theorem take_snoc' {α : Type} (L : List α) (k : Nat) (hk : k < L.length) (d : α) : L.take (k + 1) = L.take k ++ [L.getD k d] := by
  rw [List.take_succ_eq_append_getElem hk]; simp [List.getD, hk]

def RvRel (w : World) (n : Nat) (E : List (Nat × Nat)) (A : Option Addr) (c : Nat) (v i : Value) (wr : World) : Prop :=
  ∃ k : Nat, k ≤ E.length ∧ i = .int .i64 k ∧ wr.ownsRow w.heap.size 48 2 v k ((swapE (E.take k)).flatMap arcv) ∧ wr.heap[w.heap.size]? = some (.cells #[.int .i64 (n : Int), .slice A E.length c] 24 (0, 0)) ∧
    wr.heap[w.heap.size + 1]? = some (.cells #[.int .i64 0, .slice none 0 0] 24 (0, 0)) ∧ Below w.heap.size w wr
set_option maxRecDepth 100000 in
set_option maxHeartbeats 8000000 in
theorem ref37rev (n : Nat) (E : List (Nat × Nat)) (A : Option Addr) (c : Nat) (w : World) (hn : n ≤ 1048576) (he : E.length ≤ 4194304) (hE : EndsOk n E) (hr : Arcs w A E) :
    Calls Try.prog 83 #[.agg #[.int .i64 (n : Int), .slice A E.length c]] w (RetGraph w n (swapE E)) := by
  have Hr := hid hr
  have HE := hid hE
  clear hr hE
  go_enter Try.func83, Try.ntmps83
  go_wp2_with fail
  rw [← toI_length E]
  refine (ref37check n A (toI E) c _ (arcs_toI.1 (by exact Hr.out.below (below_alloc' (below_alloc' (Below.refl _ _) _) _))) (by omega) (by omega) (by rw [toI_length]; exact he)).mono ?_
  rintro e w1 ⟨r, rfl, hr0, hb⟩
  obtain rfl : r = 0 := hr0.2 (fun i hi => by rw [toI_length] at hi; have := HE.out i hi; unfold ArcOk; rw [toI_getD]; simp only; omega)
  rw [toI_length E] at hb ⊢
  have hb1 : Below w.heap.size w w1 := below_then' (below_alloc' (below_alloc' (Below.refl _ _) _) _) hb
  have kb : w1.heap[w.heap.size]? = some (.cells #[.int .i64 (n : Int), .slice A E.length c] 24 (0, 0)) := blk_below (blk_below (new_blk w _ _) (below_alloc' (Below.refl _ _) _)) hb
  have kc : w1.heap[w.heap.size + 1]? = some (.cells #[.int .i64 0, .slice none 0 0] 24 (0, 0)) := blk_below (by have := new_blk (w.alloc (.cells #[.int .i64 (n : Int), .slice A E.length c] 24)) #[.int .i64 0, .slice none 0 0] 24; simpa using this) hb
  have Hb1 := hid hb1
  have Kb := hid kb
  have Kc := hid kc
  clear hb1 hb kb kc hr0
  go_wp2
  go_loopw [3, 4] (fun v i wr => RvRel w n E A c v i wr) (fun _ i _ => E.length - (intOf i).toNat)
  case atStart => exact ⟨0, Nat.zero_le _, rfl, World.ownsRow_nil _ _ _ _, Kb.out, Kc.out, Hb1.out⟩
  case round =>
    obtain ⟨k, hk, rfl, hown, hbox, hres, hnx⟩ := hrel
    have Hown := hid hown
    have Hbox := hid hbox
    have Hres := hid hres
    have Hnx := hid hnx
    by_cases hlt : k < E.length
    · obtain ⟨b, o, rfl, hb, cx0, cx1⟩ := Hr.out.at_ hlt
      have hsn := hid (take_snoc' E k hlt (0, 0))
      obtain ⟨u, v, huv⟩ : ∃ u v, E.getD k (0, 0) = (u, v) := ⟨_, _, rfl⟩
      rw [huv] at cx0 cx1 hsn
      dsimp only at cx0 cx1
      have c1 : wr.cell? ⟨w.heap.size, 1, none⟩ = some (.slice (some ⟨b, o, none⟩) E.length c) := blk_cell' hbox 1
      have cl := blk_lt' hbox
      have hbw : b < wr.heap.size := Nat.lt_of_lt_of_le hb hnx.size
      replace cx0 := cell_later hnx cx0
      replace cx1 := cell_later hnx cx1
      clear hown hbox hres hnx huv
      go_wp2
      have nb : b ≠ wr.heap.size := Nat.ne_of_lt hbw
      have nc : w.heap.size ≠ wr.heap.size := Nat.ne_of_lt cl
      have hsz : w.heap.size ≤ wr.heap.size := Nat.le_of_lt cl
      have hnx1 : Hid (some w.heap.size ≠ u3.ownBlock) := own_ne Hown.out Hbox.out (by decide)
      have hnx2 : Hid (some b ≠ u3.ownBlock) := own_far Hown.out hb
      go_region_held3 (fun w' => w'.cell? ⟨w.heap.size, 1, none⟩ = some (.slice (some ⟨b, o, none⟩) E.length c) ∧ w'.cell? ⟨b, o + k * 2, none⟩ = some (.int .i64 (u : Int)) ∧ w'.cell? ⟨b, o + k * 2 + 1, none⟩ = some (.int .i64 (v : Int)))
        (first
          | go_keep
          | (go_split_ands
             refine ⟨?_, ?_, ?_⟩
             · (rw [hgrow2.cell_far _ (by simp; omega) hnx1.out]; assumption)
             · (rw [hgrow2.cell_far _ (by simp; omega) hnx2.out]; assumption)
             · (rw [hgrow2.cell_far _ (by simp; omega) hnx2.out]; assumption)))
        ((refine step_app1 (by rfl) _ _ 22 48 _ 2 16 (by rfl) Try.underlying22 info_arc (by rfl) (by decide) w.heap.size k wr.heap.size _ ((swapE (E.take k)).flatMap arcv) [.int .i64 (v : Int), .int .i64 (u : Int)] (by rfl) (by rfl) (by exact new_blk wr _ _) (by exact (Hown.out.alloc _)) (by rfl) (by simp [Value.oneCell']) (by omega) (by omega) (by simp; omega) ?_; intro v' w2 hown2 hgrow2 hloc2))
      have Hown2 := hid hown2
      have hb2 : Hid (w2.heap[w.heap.size]? = some (.cells #[.int .i64 (n : Int), .slice (some ⟨b, o, none⟩) E.length c] 24 (0, 0))) := blk_grown (by exact blk_below Hbox.out (below_alloc' (Below.refl _ _) _).drew) hgrow2 hnx1.out
      have hr2 : Hid (w2.heap[w.heap.size + 1]? = some (.cells #[.int .i64 0, .slice none 0 0] 24 (0, 0))) := blk_grown (by exact blk_below Hres.out (below_alloc' (Below.refl _ _) _).drew) hgrow2 (own_ne Hown.out Hres.out (by decide))
      have hn2 : Hid (Below w.heap.size w w2) := (show Below w.heap.size w _ from (below_alloc' Hnx.out _).drew).grown hgrow2 (by simp; omega) (fun j hj => (Hown.out.lt j hj).1)
      clear hown2 hgrow2 hloc2
      go_wp2
      go_roundw
      case rel =>
        have hR : RvRel w n E (some ⟨b, o, none⟩) c v' (.int .i64 ((k + 1 : Nat) : Int)) w2 := by
          refine ⟨k + 1, by omega, rfl, ?_, hb2.out, hr2.out, hn2.out⟩
          rw [hsn.out]
          simpa [swapE, arcv] using Hown2.out
        first | exact hR | ((repeat apply Exists.intro); exact ⟨hR, rfl⟩)
      case measure => simp [intOf]; omega
    · have : k = E.length := by omega
      subst this
      have c0 : wr.cell? ⟨w.heap.size, 0, none⟩ = some (.int .i64 (n : Int)) := blk_cell' hbox 0
      have c1 : wr.cell? ⟨w.heap.size, 1, none⟩ = some (.slice A E.length c) := blk_cell' hbox 1
      have cl := blk_lt' hbox
      have r0 : wr.cell? ⟨w.heap.size + 1, 0, none⟩ = some (.int .i64 0) := blk_cell' hres 0
      have r1 : wr.cell? ⟨w.heap.size + 1, 1, none⟩ = some (.slice none 0 0) := blk_cell' hres 1
      have f0 := blk_free hres 0
      have f1 := blk_free hres 1
      have rl := blk_lt' hres
      have hne2 : Hid (u3.ownBlock ≠ some (w.heap.size + 1)) := fun h => own_ne hown hres (by decide) h.symm
      rw [List.take_length, ← swapE_length E] at hown
      obtain ⟨A2, c2, rfl, hc2, hf2, hN2⟩ := own_arcs' hown
      have HN := hid (show Arcs wr A2 (swapE E) ∧ (swapE E).length ≤ c2 ∧ Fresh w.heap.size A2 from ⟨hN2, hc2, hf2⟩)
      clear hown hbox hres hnx hN2 hc2 hf2 Hown
      go_wp2
      have q := blk_set' (blk_set' Hres.out 0 (.int .i64 (n : Int))) 1 (.slice A2 (swapE E).length c2)
      have q0 := blk_cell' q 0
      have q1 := blk_cell' q 1
      simp at q0 q1
      refine bodyPost_ret (v := .agg #[.int .i64 (n : Int), .slice A2 (swapE E).length c2]) (by simp [results, Try.results83, go_sem, q0, q1]) rfl ⟨A2, c2, rfl, HN.out.2.1, HN.out.2.2, ?_, ?_⟩
      · have hne : ∀ ad, A2 = some ad → ad.block ≠ w.heap.size + 1 := fun ad e h => by subst e; exact hne2.out (by simp [Value.ownBlock, h])
        exact (HN.out.1.far hne _).far hne _
      · exact (Hnx.out.setCell (by simp) _).setCell (by simp) _

end Go.Proofs.Ytpfjannhggcmiaa
