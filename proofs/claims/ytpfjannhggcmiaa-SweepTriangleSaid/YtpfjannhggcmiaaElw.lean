/- Contract of eliminate: the edges of the hierarchy are those of the elimination. -/
import Derived.Test.YtpfjannhggcmiaaOwn
namespace Go.Proofs.Ytpfjannhggcmiaa
open Go.RowKit Go.Maps

/-! ### bounds and fresh edges -/
theorem rowE_len (order : List Nat) (a : Nat) (L : List Nat) : (rowE order a L).length = L.length := by simp [rowE]
theorem edgesOf_len {order : List Nat} {rows : List (List Nat)} {m : Nat} (h : ∀ a, a < rows.length → (rows.getD a []).length ≤ m) : (edgesOf order rows).length ≤ rows.length * m := by
  unfold edgesOf
  rw [List.length_flatMap]
  have : ∀ (k : Nat), k ≤ rows.length → ((List.range k).map fun a => (rowE order a (rows.getD a [])).length).sum ≤ k * m := by
    intro k
    induction k with
    | zero => simp
    | succ k ih =>
      intro hk
      rw [List.range_succ, List.map_append, List.sum_append]
      have h1 := ih (by omega)
      have h2 := h k (by omega)
      simp only [List.map_cons, List.map_nil, List.sum_cons, List.sum_nil, rowE_len] at h1 ⊢
      rw [Nat.add_mul]
      omega
  exact this _ (Nat.le_refl _)
theorem Part.row_le {n E order r done higher} (h : Part n E order r done higher) (hr : r ≤ n) (a : Nat) (ha : a < done.length) : (done.getD a []).length ≤ n := by
  rw [h.dlen] at ha
  exact sorted_short (h.sorted a ha) (fun x hx => (h.rng a ha x hx).2)
theorem PermN.inj {n : Nat} {order ranks : List Nat} (h : PermN n order ranks) {i j : Nat} (hi : i < n) (hj : j < n) (e : order.getD i 0 = order.getD j 0) : i = j := by
  rw [← h.ro i hi, e, h.ro j hj]
theorem fresh_edge {n : Nat} {E : List (Nat × Nat)} {order ranks : List Nat} {r : Nat} {done higher : List (List Nat)} (hp : PermN n order ranks) (h : Part n E order r done higher) (hr : r < n) {L : List Nat} (hs : SetOf (higher.getD r []) L) {i : Nat} (hi : i < L.length) :
    (order.getD r 0, order.getD (L.getD i 0) 0) ∉ edgesOf order done ++ rowE order r (L.take i) := by
  intro hm
  have hmem : L.getD i 0 ∈ L := by rw [List.getD, List.getElem?_eq_getElem hi]; exact List.getElem_mem _
  have hlt := (h.hrng r (Nat.le_refl _) hr _ ((hs.mem _).1 hmem)).2
  rcases List.mem_append.1 hm with hm | hm
  · obtain ⟨a, s, ha, hs', he⟩ := mem_edgesOf.1 hm
    rw [h.dlen] at ha
    have := hp.inj (i := r) (j := a) hr (by omega) (by simpa using congrArg Prod.fst he)
    omega
  · unfold rowE at hm
    obtain ⟨s, hs', he⟩ := List.mem_map.1 hm
    rw [List.mem_take_iff_getElem] at hs'
    obtain ⟨j, hj, rfl⟩ := hs'
    have hjl : j < L.length := by omega
    have h2 := (h.hrng r (Nat.le_refl _) hr _ ((hs.mem _).1 (List.getElem_mem hjl))).2
    have h3 := hp.inj h2 hlt (congrArg Prod.snd he)
    have h4 := List.pairwise_iff_getElem.1 hs.sorted j i hjl hi (by omega)
    simp [List.getD, hi] at h3
    omega

/-! ### rows of rows that are read -/
def ROL (w : World) (lab : Lab) (g : Nat) (rows : List (List Nat)) : Prop :=
  g < w.heap.size ∧ (lab g).1 = 0 ∧ ∀ i, i < rows.length → ∃ A c, w.cell? ⟨g, i, none⟩ = some (.slice A (rows.getD i []).length c) ∧ (rows.getD i []).length ≤ c ∧ Nats w A (rows.getD i []) ∧ RO w lab A
theorem ROL.keeps {C : Nat × Nat → Prop} {w w' : World} {lab lab' : Lab} {g : Nat} {rows : List (List Nat)} (h : ROL w lab g rows) (hC : ∀ i, ¬ C (0, i)) (hk : Keeps C w lab w' lab') : ROL w' lab' g rows := by
  obtain ⟨h1, h2, h3⟩ := h
  refine ⟨Nat.lt_of_lt_of_le h1 hk.size, by rw [hk.labs g h1]; exact h2, fun i hi => ?_⟩
  obtain ⟨A, c, h4, h5, h6, h7⟩ := h3 i hi
  refine ⟨A, c, ?_, h5, h7.nats hC hk h6, h7.keeps hk⟩
  rw [← h4]
  exact World.cell?_of_block (show w'.heap[(⟨g, i, none⟩ : Addr).block]? = w.heap[(⟨g, i, none⟩ : Addr).block]? from hk.block g h1 (by
    rw [show lab g = (0, (lab g).2) from by rw [← h2]]; exact hC _))
theorem TabAt.rol {w : World} {lab lab' : Lab} {c base g : Nat} {rows : List (List Nat)} (h : TabAt w lab c base g rows) (hl : ∀ k, base ≤ k → (lab' k).1 = 0) : ROL w lab' g rows := by
  refine ⟨h.lt, hl g h.base_le, fun i hi => ?_⟩
  obtain ⟨v, hv, ho, _, _⟩ := h.at_ hi
  obtain ⟨A, c', rfl, hc, _, hN⟩ := own_nats ho
  exact ⟨A, c', hv, hc, hN, fun ad e => by
    subst e
    have h2 := ho.lt ad.block (by simp [Value.ownBlock])
    exact ⟨h2.2, hl _ h2.1⟩⟩

/-! ### the state of eliminate -/
structure St (w0 wr : World) (lab : Lab) (base h : Nat) (D : HD) (Aa : Option Addr) (ca : Nat) (Ao : Option Addr) (co : Nat) (Ar : Option Addr) (cr nb gu gd g5 : Nat) (higher : List (List Nat)) : Prop where
  own : ∃ ve, HOwn wr lab base h D Aa ca Ao co Ar cr ve nb gu gd
  tab : TabAt wr lab 5 base g5 higher
  bel : Below base w0 wr
theorem St.keeps {C : Nat × Nat → Prop} {w0 w w' : World} {lab lab' : Lab} {base h : Nat} {D : HD} {Aa : Option Addr} {ca : Nat} {Ao : Option Addr} {co : Nat} {Ar : Option Addr} {cr nb gu gd g5 : Nat} {higher : List (List Nat)}
    (S : St w0 w lab base h D Aa ca Ao co Ar cr nb gu gd g5 higher) (hC : ∀ c i, c ≤ 5 → ¬ C (c, i)) (hk : Keeps C w lab w' lab') (hb : Below base w0 w') : St w0 w' lab' base h D Aa ca Ao co Ar cr nb gu gd g5 higher := by
  obtain ⟨ve, H⟩ := S.own
  exact ⟨⟨ve, H.keeps (fun c i hc => hC c i (by omega)) hk⟩, S.tab.keeps (fun i => hC 5 i (by omega)) hk, hb⟩
/-- Labels when the call has made new blocks that are only read. -/
def labNew (lab : Lab) (B : Nat) : Lab := fun k => if k < B then lab k else (0, 0)
theorem labNew_old (lab : Lab) (B k : Nat) (h : k < B) : labNew lab B k = lab k := if_pos h
theorem labNew_new (lab : Lab) (B k : Nat) (h : B ≤ k) : labNew lab B k = (0, 0) := if_neg (by omega)
theorem keeps_new {C : Nat × Nat → Prop} {w w' : World} (lab : Lab) (h : Below w.heap.size w w') : Keeps C w lab w' (labNew lab w.heap.size) := ⟨h.size, fun k hk => labNew_old _ _ _ hk, fun k hk _ => h.block k hk⟩

section
variable (w0 : World) (n : Nat) (E : List (Nat × Nat)) (order ranks : List Nat) (base h : Nat) (Aa : Option Addr) (ca : Nat) (Ao : Option Addr) (co : Nat) (Ar : Option Addr) (cr nb gu gd g5 gN : Nat) (rows : List (List Nat))
def E1Rel (i : Value) (wr : World) : Prop :=
  ∃ (v : Nat) (lab : Lab) (higher : List (List Nat)), v ≤ n ∧ i = .int .i64 v ∧ Hi1 n order ranks rows v 0 higher ∧ St w0 wr lab base h (hdOf n E order ranks []) Aa ca Ao co Ar cr nb gu gd g5 higher ∧ ROL wr lab gN rows
def E2Rel (v : Nat) (A : Option Addr) (L : List Nat) (i : Value) (wr : World) : Prop :=
  ∃ (j : Nat) (lab : Lab) (higher : List (List Nat)), j ≤ L.length ∧ i = .int .i64 j ∧ Hi1 n order ranks rows v j higher ∧ St w0 wr lab base h (hdOf n E order ranks []) Aa ca Ao co Ar cr nb gu gd g5 higher ∧ ROL wr lab gN rows ∧ Nats wr A L ∧ RO wr lab A
def E3Rel (i : Value) (wr : World) : Prop :=
  ∃ (r : Nat) (lab : Lab) (done higher : List (List Nat)), r ≤ n ∧ i = .int .i64 r ∧ Part n E order r done higher ∧ St w0 wr lab base h (hdOf n E order ranks (edgesOf order done)) Aa ca Ao co Ar cr nb gu gd g5 higher
def E4Rel (r : Nat) (done higher : List (List Nat)) (A : Option Addr) (L : List Nat) (i : Value) (wr : World) : Prop :=
  ∃ (j : Nat) (lab : Lab), j ≤ L.length ∧ i = .int .i64 j ∧ St w0 wr lab base h (hdOf n E order ranks (edgesOf order done ++ rowE order r (L.take j))) Aa ca Ao co Ar cr nb gu gd g5 (midH higher L j) ∧ Nats wr A L ∧ RO wr lab A
end
/-- The hierarchy has the edges of the elimination. -/
def RetElim (w : World) (n : Nat) (E : List (Nat × Nat)) (order ranks : List Nat) (base h : Nat) (Aa : Option Addr) (ca : Nat) (Ao : Option Addr) (co : Nat) (Ar : Option Addr) (cr nb gu gd : Nat) (en : Ending) (w' : World) : Prop :=
  ∃ lab rows ve, en = .returned (.tuple #[]) ∧ Elim n E order rows ∧ HOwn w' lab base h (hdOf n E order ranks (edgesOf order rows)) Aa ca Ao co Ar cr ve nb gu gd ∧ Below base w w'

set_option maxRecDepth 100000 in
set_option maxHeartbeats 8000000 in
theorem eliminate_any {w : World} {lab : Lab} {n : Nat} {E : List (Nat × Nat)} {order ranks : List Nat} {base h : Nat} {Aa : Option Addr} {ca : Nat} {Ao : Option Addr} {co : Nat} {Ar : Option Addr} {cr : Nat} {ve : Value} {nb gu gd : Nat}
    (H : HOwn w lab base h (hdOf n E order ranks []) Aa ca Ao co Ar cr ve nb gu gd) (hp : PermN n order ranks) (hE : EndsOk n E) (hn : n ≤ 1024) (he : E.length ≤ 4194304) :
    Calls Try.prog 71 #[.pointer (some ⟨h, 0, none⟩)] w (RetElim w n E order ranks base h Aa ca Ao co Ar cr nb gu gd) := by
  have HH := hid H
  have HP := hid hp
  have HE := hid hE
  have hl := blk_lt' H.blk
  have hbase : base ≤ w.heap.size := Nat.le_trans H.base_le (Nat.le_of_lt hl)
  have c0 : w.cell? ⟨h, 0, none⟩ = some (.int .i64 (n : Int)) := H.cell 0
  have c1 : w.cell? ⟨h, 1, none⟩ = some (.slice Aa E.length ca) := H.cell 1
  have hmk := run_make_rows n (by omega)
  clear H hp hE
  go_enter Try.func71, Try.ntmps71
  go_wp2_with fail
  obtain ⟨w1, hw1⟩ : ∃ W, W = w.alloc (.cells (Array.replicate n (.slice none 0 0)) 25) := ⟨_, rfl⟩
  rw [← hw1]
  have hb1 : Below w.heap.size w w1 := by rw [hw1]; exact below_alloc' (Below.refl _ _) _
  have hs1 : w1.heap.size = w.heap.size + 1 := by rw [hw1]; simp
  have ht1 : w1.heap[w.heap.size]? = some (.cells (Array.replicate n (.slice none 0 0)) 25 (0, 0)) := by rw [hw1]; exact new_blk w _ _
  clear hw1
  refine (neighbours n E Aa ca w1 (by omega) he HE.out (HH.out.arcs.below hb1)).mono ?_
  rintro e w2 ⟨gN, rows, rfl, hnb, ⟨labN, htab⟩, hb2⟩
  have hB2 := below_then' hb1 hb2
  have Hnb := hid hnb
  have S2 : St w w2 (fun k => if k = w.heap.size then (5, n) else labNew lab w.heap.size k) base h (hdOf n E order ranks []) Aa ca Ao co Ar cr nb gu gd w.heap.size (List.replicate n []) := by
    refine ⟨⟨ve, HH.out.keeps (C := fun _ => False) (fun _ _ _ h => h) ⟨hB2.size, fun k hk => ?_, fun k hk _ => hB2.block k hk⟩⟩, TabAt.made hbase (if_pos rfl) (blk_below ht1 hb2), hB2.mono hbase⟩
    have : k ≠ w.heap.size := by omega
    simp only [this, if_false]
    exact labNew_old _ _ _ hk
  have R2 : ROL w2 (fun k => if k = w.heap.size then (5, n) else labNew lab w.heap.size k) gN rows := htab.rol (fun k hk => by
    have : k ≠ w.heap.size := by omega
    simp only [this, if_false]
    rw [labNew_new _ _ _ (by omega)])
  have HS2 := hid S2
  have HR2 := hid R2
  clear hb1 hs1 ht1 hnb htab hb2 hB2 S2 R2 c0 c1 hl
  go_wp2
  go_loopw [23] (fun i wr => E1Rel w n E order ranks base h Aa ca Ao co Ar cr nb gu gd w.heap.size gN rows i wr) (fun i _ => n - (intOf i).toNat)
  case atStart => exact ⟨0, _, _, Nat.zero_le _, rfl, Hi1.zero n order ranks rows, HS2.out, HR2.out⟩
  case round =>
    obtain ⟨v, lab1, higher, hvn, rfl, hhi, hst, hro⟩ := hrel
    clear HS2 HR2
    have HHi := hid hhi
    have HSt := hid hst
    have HRo := hid hro
    clear hhi hst hro
    by_cases hlt : v < n
    · obtain ⟨hgl, hgc, hrows⟩ := HRo.out
      obtain ⟨AN, cN, cv, hcN, hN, hro⟩ := hrows v (by rw [Hnb.out.len]; exact hlt)
      obtain ⟨nl, hnl⟩ : ∃ L, L = rows.getD v [] := ⟨_, rfl⟩
      rw [← hnl] at cv hcN hN
      have hnlen : nl.length ≤ n := by rw [hnl]; exact sorted_short (Hnb.out.sorted v hlt) (fun x hx => by
        obtain ⟨_, i, hi, hx'⟩ := (Hnb.out.mem v hlt x).1 hx
        have hen := HE.out i hi
        rcases hx' with e | e <;> rw [e] at hen <;> omega)
      have Hnl := hid hnl
      have HN := hid hN
      have HroN := hid hro
      clear hgc hrows hN hro hnl
      go_wp2
      go_loopw [30] (fun i wr => E2Rel w n E order ranks base h Aa ca Ao co Ar cr nb gu gd w.heap.size gN rows v AN nl i wr) (fun i _ => nl.length - (intOf i).toNat)
      case atStart => exact ⟨0, _, _, Nat.zero_le _, rfl, HHi.out, HSt.out, HRo.out, HN.out, HroN.out⟩
      case round =>
        obtain ⟨j, lab1, higher, hj, rfl, hhi, hst, hro, hN, hroN⟩ := hrel
        clear HHi HSt HRo HN HroN cv hgl
        have HHi := hid hhi
        have HSt := hid hst
        have HRo := hid hro
        have HN := hid hN
        have HroN := hid hroN
        obtain ⟨ve1, hH⟩ := hst.own
        have HO := hid hH
        by_cases hlt2 : j < nl.length
        · obtain ⟨b, o, rfl, hb, cx⟩ := hN.at_ hlt2
          obtain ⟨u, hu⟩ : ∃ u, nl.getD j 0 = u := ⟨_, rfl⟩
          have hun : u < n := by
            have h1 : u ∈ rows.getD v [] := by rw [← Hnl.out, ← hu, List.getD, List.getElem?_eq_getElem hlt2]; exact List.getElem_mem _
            obtain ⟨_, i, hi, hx'⟩ := (Hnb.out.mem v hlt u).1 h1
            have hen := HE.out i hi
            rcases hx' with e | e <;> rw [e] at hen <;> omega
          rw [hu] at cx
          obtain ⟨br, orr, hAr, hbr, cu⟩ := hH.ranks.at_ (k := u) (by show u < ranks.length; rw [HP.out.rlen]; exact hun)
          obtain ⟨br', orr', hAr', _, cw⟩ := hH.ranks.at_ (k := v) (by show v < ranks.length; rw [HP.out.rlen]; exact hlt)
          rw [hAr] at hAr'
          cases hAr'
          have c3 : wr.cell? ⟨h, 3, none⟩ = some (.slice (some ⟨br, orr, none⟩) n cr) := by rw [← hAr]; exact hH.cell 3
          have hlh := blk_lt' hH.blk
          obtain ⟨su, hsu⟩ : ∃ x, ranks.getD u 0 = x := ⟨_, rfl⟩
          obtain ⟨sv, hsv⟩ : ∃ x, ranks.getD v 0 = x := ⟨_, rfl⟩
          have hsun : su < n := by rw [← hsu]; exact HP.out.rlt u hun
          have hsvn : sv < n := by rw [← hsv]; exact HP.out.rlt v hlt
          change wr.cell? ⟨br, orr + u, none⟩ = some (.int .i64 ((ranks.getD u 0 : Nat) : Int)) at cu
          change wr.cell? ⟨br, orr + v, none⟩ = some (.int .i64 ((ranks.getD v 0 : Nat) : Int)) at cw
          rw [hsu] at cu
          rw [hsv] at cw
          have Hu := hid hu
          have Hsu := hid hsu
          have Hsv := hid hsv
          clear hhi hst hro hN hroN hH hu hsu hsv hAr
          by_cases hss : sv < su
          · have g1 : decide (sv < su) = true := decide_eq_true hss
            have g1' : decide ((sv : Int) < (su : Int)) = true := decide_eq_true (by omega)
            go_wp2
            go_quiet (fail)
            obtain ⟨W8, hW8⟩ : ∃ W, W = wr.drewN nq := ⟨_, rfl⟩
            rw [← hW8]
            have hb8 : Below wr.heap.size wr W8 := by rw [hW8]; exact below_drewN' (Below.refl _ _) _
            have hk8 : Keeps (fun _ => False) wr lab1 W8 lab1 := Keeps.below _ hb8
            have hbel8 : Below base w W8 := by rw [hW8]; exact below_drewN' HSt.out.bel _
            have HSt8 := hid (HSt.out.keeps (fun _ _ _ h => h) hk8 hbel8)
            have HRo8 := hid (HRo.out.keeps (fun _ h => h) hk8)
            have HN8 := hid (HN.out.below hb8)
            have HroN8 := hid (HroN.out.keeps hk8)
            have HO8 := hid (HO.out.keeps (fun _ _ _ h => h) hk8)
            replace c3 := cell_later hb8 c3
            replace cu := cell_later hb8 cu
            replace cw := cell_later hb8 cw
            have hlh8 := blk_lt' HO8.out.blk
            have hbr8 : br < W8.heap.size := Nat.lt_of_lt_of_le hbr hb8.size
            have hror : Hid ((lab1 br).1 = 0) := (HO8.out.ror ⟨br, orr, none⟩ (by
              have h1 := (HO8.out.cell 3).symm.trans c3
              simp [hcells] at h1
              exact h1.1)).2
            clear hW8 hb8 hk8 hbel8 HSt HRo HN HroN HO hlh hbr cx hb
            obtain ⟨hr0, hhr0⟩ : ∃ R, R = higher.getD sv [] := ⟨_, rfl⟩
            obtain ⟨v0, ct, own0, lab0, ne0⟩ := HSt8.out.tab.at_ (i := sv) (by rw [HHi.out.len]; exact hsvn)
            rw [← hhr0] at own0
            have fz := HSt8.out.tab.free sv
            have gl := HSt8.out.tab.lt
            have Own0 := hid own0
            have Hhr0 := hid hhr0
            have Hne0 := hid ne0
            have HT8 := hid HSt8.out.tab
            have nxh : Hid (some h ≠ v0.ownBlock) := own_ne own0 HO8.out.blk (by decide)
            have nxr : Hid (some br ≠ v0.ownBlock) := fun e => by
              have h1 := lab0 br e.symm
              have h2 := hror.out
              rw [h1] at h2
              cases h2
            have nl8 : Hid (hr0.length ≤ 1048576) := by
              rw [hhr0]
              have h4 := HHi.out.small sv hsvn
              have h3 : j ≤ n := by omega
              refine Nat.le_trans h4 ?_
              split
              · omega
              · split <;> omega
            have HBs : Hid (base ≤ W8.heap.size) := Nat.le_trans hbase HSt8.out.bel.size
            have hS1 : Hid (∀ W', Below W8.heap.size W8 W' → W'.cell? ⟨h, 3, none⟩ = some (.slice (some ⟨br, orr, none⟩) n cr) ∧ W'.cell? ⟨br, orr + u, none⟩ = some (.int .i64 (su : Int)) ∧ W'.cell? ⟨br, orr + v, none⟩ = some (.int .i64 (sv : Int)) ∧ W'.cell? ⟨w.heap.size, sv, none⟩ = some v0) := fun W' h => ⟨cell_later h c3, cell_later h cu, cell_later h cw, cell_later h ct⟩
            have gg1 : (0 : Int) ≤ (sv : Int) := by omega
            have gg2 : (sv : Int) < (n : Int) := by omega
            clear own0 hhr0 ne0 lab0
            go_wp2
            refine wp_region_plan (fun w' => w'.cell? ⟨h, 3, none⟩ = some (.slice (some ⟨br, orr, none⟩) n cr) ∧ w'.cell? ⟨br, orr + u, none⟩ = some (.int .i64 (su : Int)) ∧ w'.cell? ⟨br, orr + v, none⟩ = some (.int .i64 (sv : Int)) ∧ w'.cell? ⟨w.heap.size, sv, none⟩ = some v0) 28 [0, 1, 2, 3, 4, 5, 6, 7, 8, 9, 10, 11, 12, 13, 14, 15, 16, 17, 18, 19, 20, 21, 22, 23, 24] [25, 26, 27] (by kernel_rfl) (by kernel_rfl) ⟨c3, cu, cw, ct⟩ ?_
            iterate 25
              refine readsS_take (v := ?_) rfl (by rfl) ?_ ?_
              rotate_left
              · (intro W hSW; (try dsimp only at hSW); go_split_ands; go_simp; try with_reducible rfl)
              simp only [Act.put, List.setIfInBounds_toArray, List.set_cons_zero, List.set_cons_succ]
            refine readsS_nil ?_
            refine chainS_step rfl (fun K hK => ?_)
            go_simp
            refine hK.out _ _ (hS1.out _ (by exact (below_alloc' (Below.refl _ _) _).drew)) ?_
            clear hK K
            try simp only [Act.put, List.setIfInBounds_toArray, List.set_cons_zero, List.set_cons_succ]
            refine chainS_step rfl (fun K hK => ?_)
            refine step_app1 (by rfl) _ _ 25 3 _ 1 8 (by rfl) Try.underlying25 info_int (by rfl) (by decide) base hr0.length W8.heap.size v0 (hr0.map natv) [.int .i64 (su : Int)] (by rfl) (by rfl) (by exact new_blk W8 _ _) (by exact (Own0.out.alloc _)) (by rfl) (by simp [Value.oneCell']) (by have := nl8.out; omega) (by have := nl8.out; omega) (by have := HBs.out; simp; omega) ?_
            intro v2 w2' hown2 hgrow2 hloc2
            obtain ⟨kc2, kf2⟩ := tab_kept HT8.out (by exact (below_alloc' (Below.refl _ _) _).drew) hgrow2 Hne0.out ct
            obtain ⟨A2, c2, hv2, _, _, _⟩ := own_row hown2
            subst hv2
            have k3 : w2'.cell? ⟨h, 3, none⟩ = some (.slice (some ⟨br, orr, none⟩) n cr) := (hgrow2.cell_far _ (by simp; omega) nxh.out).trans (cell_later (by exact (below_alloc' (Below.refl _ _) _).drew) c3)
            have ku : w2'.cell? ⟨br, orr + u, none⟩ = some (.int .i64 (su : Int)) := (hgrow2.cell_far _ (by simp; omega) nxr.out).trans (cell_later (by exact (below_alloc' (Below.refl _ _) _).drew) cu)
            have kw : w2'.cell? ⟨br, orr + v, none⟩ = some (.int .i64 (sv : Int)) := (hgrow2.cell_far _ (by simp; omega) nxr.out).trans (cell_later (by exact (below_alloc' (Below.refl _ _) _).drew) cw)
            refine hK.out _ _ ⟨k3, ku, kw, kc2⟩ ?_
            clear hK K
            try simp only [Act.put, List.setIfInBounds_toArray, List.set_cons_zero, List.set_cons_succ]
            refine chainS_step rfl (fun K hK => ?_)
            go_simp
            refine hK.out _ _ ⟨k3, ku, kw, kc2⟩ ?_
            clear hK K
            try simp only [Act.put, List.setIfInBounds_toArray, List.set_cons_zero, List.set_cons_succ]
            refine chainS_last rfl (fun K hK => ?_)
            go_simp
            refine hK.out _ _ (NoPanic.normal ?_)
            clear hK K
            have T2 := HT8.out.app (by exact (below_alloc' (Below.refl _ _) _).drew) (by rw [HHi.out.len]; exact hsvn) ct hgrow2 (x := su) (v' := .slice A2 (hr0.length + 1) c2) (by rw [← Hhr0.out]; exact hown2) hloc2
            rw [← Hhr0.out] at T2
            have K2 := app_keeps HT8.out (by exact (below_alloc' (Below.refl _ _) _).drew) (by rw [HHi.out.len]; exact hsvn) ct hgrow2 (v' := .slice A2 (hr0.length + 1) c2) hloc2
            have hnx2 := ((((show Below base w _ from (HSt8.out.bel.alloc (Nat.le_trans hbase HSt8.out.bel.size) _).drew).grown hgrow2 (by have := HBs.out; simp; omega) (fun j hj => (Own0.out.lt j hj).1))).setCell (p := ⟨w.heap.size, sv, none⟩) hbase (.slice A2 (hr0.length + 1) c2))
            obtain ⟨W9, hW9⟩ : ∃ W, W = w2'.setCell ⟨w.heap.size, sv, none⟩ (.slice A2 (hr0.length + 1) c2) := ⟨_, rfl⟩
            rw [← hW9] at T2 K2 hnx2 ⊢
            have HT2 := hid T2
            have HK2 := hid K2
            have Hnx2 := hid hnx2
            clear T2 K2 hnx2 hW9 hown2 hgrow2 hloc2 k3 ku kw kc2 kf2 c3 cu cw ct hS1 fz gl
            go_wp2
            go_roundw
            case rel =>
              have hR : E2Rel w n E order ranks base h Aa ca Ao co Ar cr nb gu gd w.heap.size gN rows v (some ⟨b, o, none⟩) nl (.int .i64 ((j + 1 : Nat) : Int)) W9 := by
                have hst := HHi.out.step HP.out (by rw [← Hnl.out]; exact hlt2) hlt (by rw [← Hnl.out, Hu.out]; exact hun) (by rw [← Hnl.out, Hu.out, Hsu.out, Hsv.out]; exact hss)
                rw [Hsv.out, ← Hnl.out, Hu.out, Hsu.out, ← Hhr0.out] at hst
                have hC : ∀ c i, c ≤ 4 → ¬ ((fun p : Nat × Nat => p.1 = 5) (c, i)) := fun c i hc h => by simp at h; omega
                have hC0 : ∀ i, ¬ ((fun p : Nat × Nat => p.1 = 5) (0, i)) := fun i h => by simp at h
                exact ⟨j + 1, _, _, by omega, rfl, hst, ⟨⟨ve1, HO8.out.keeps hC HK2.out⟩, HT2.out, Hnx2.out⟩, HRo8.out.keeps hC0 HK2.out, HroN8.out.nats hC0 HK2.out HN8.out, HroN8.out.keeps HK2.out⟩
              first | exact hR | ((repeat apply Exists.intro); exact ⟨hR, rfl⟩)
            case measure => simp [intOf]; omega
          · have g1 : decide (sv < su) = false := decide_eq_false hss
            have g1' : decide ((sv : Int) < (su : Int)) = false := decide_eq_false (by omega)
            go_wp2
            go_quiet (fail)
            go_wp2
            go_roundw
            case rel =>
              have hR : E2Rel w n E order ranks base h Aa ca Ao co Ar cr nb gu gd w.heap.size gN rows v (some ⟨b, o, none⟩) nl (.int .i64 ((j + 1 : Nat) : Int)) (wr.drewN nq) := by
                have hb : Below wr.heap.size wr (wr.drewN nq) := below_drewN' (Below.refl _ _) _
                have hk : Keeps (fun _ => False) wr lab1 (wr.drewN nq) lab1 := Keeps.below _ hb
                exact ⟨j + 1, lab1, higher, by omega, rfl, HHi.out.pass HP.out (by rw [← Hnl.out]; exact hlt2) hlt (by rw [← Hnl.out, Hu.out, Hsu.out, Hsv.out]; omega), HSt.out.keeps (fun _ _ _ h => h) hk (below_drewN' HSt.out.bel _), HRo.out.keeps (fun _ h => h) hk, HN.out.below hb, HroN.out.keeps hk⟩
              first | exact hR | ((repeat apply Exists.intro); exact ⟨hR, rfl⟩)
            case measure => simp [intOf]; omega
        · have : j = nl.length := by omega
          subst this
          have hh := HHi.out
          rw [Hnl.out] at hh
          have hnext := hid (hh.next (by rw [← Hnl.out]; exact hnlen))
          clear hhi hst hro hN hroN hH hh
          go_wp2
          go_roundw
          case rel =>
            have hR : E1Rel w n E order ranks base h Aa ca Ao co Ar cr nb gu gd w.heap.size gN rows (.int .i64 ((v + 1 : Nat) : Int)) wr := ⟨v + 1, _, _, by omega, rfl, hnext.out, HSt.out, HRo.out⟩
            first | exact hR | ((repeat apply Exists.intro); exact ⟨hR, rfl⟩)
          case measure => simp [intOf]; omega
    · have : v = n := by omega
      subst this
      have Hpart := hid (HHi.out.part HP.out Hnb.out)
      clear HHi
      go_wp2
      go_loopw [81] (fun i wr => E3Rel w v E order ranks base h Aa ca Ao co Ar cr nb gu gd w.heap.size i wr) (fun i _ => v - (intOf i).toNat)
      case atStart => exact ⟨0, _, [], _, Nat.zero_le _, rfl, Hpart.out, HSt.out⟩
      case round =>
        obtain ⟨r, lab1, done, higher, hrn, rfl, hpart, hst⟩ := hrel
        clear HSt HRo Hpart
        have HPart := hid hpart
        have HSt := hid hst
        by_cases hlt3 : r < v
        · obtain ⟨hr0, hhr0⟩ : ∃ R, R = higher.getD r [] := ⟨_, rfl⟩
          obtain ⟨v0, ct, own0, lab0, ne0⟩ := hst.tab.at_ (i := r) (by rw [hpart.hlen]; exact hlt3)
          rw [← hhr0] at own0
          obtain ⟨A0, cc0, rfl, hc0, _, hN0⟩ := own_nats own0
          have hrlen : hr0.length ≤ 1099511627776 := by
            rw [hhr0]
            refine Nat.le_trans (hpart.small r hlt3) ?_
            have h1 : r * v ≤ 1024 * 1024 := Nat.mul_le_mul (by omega) (by omega)
            omega
          have gl := hst.tab.lt
          have Hhr0 := hid hhr0
          have HN0 := hid hN0
          clear own0 lab0 ne0 hN0 hhr0 hpart hst
          go_wp2_with fail
          refine (setsof A0 hr0 cc0 _ HN0.out hrlen).mono ?_
          rintro e w2 ⟨vL, L, rfl, hset, hown, hb⟩
          obtain ⟨AL, cL, rfl, hcL, _, hNL⟩ := own_nats hown
          have hkn : Keeps (fun _ => False) wr lab1 w2 (labNew lab1 wr.heap.size) := keeps_new lab1 hb
          have HStL := hid (HSt.out.keeps (fun _ _ _ h => h) hkn (HSt.out.bel.trans (hb.mono (Nat.le_trans hbase HSt.out.bel.size))))
          have HroL : Hid (RO w2 (labNew lab1 wr.heap.size) AL) := fun ad e => by
            subst e
            have h2 := hown.lt ad.block (by simp [Value.ownBlock])
            exact ⟨h2.2, by rw [labNew_new _ _ _ h2.1]⟩
          have HNL := hid hNL
          have HsetL : Hid (SetOf (higher.getD r []) L) := by rw [← Hhr0.out]; exact hset
          have hLn : L.length ≤ v := sorted_short hset.sorted (fun x hx => (HPart.out.hrng r (Nat.le_refl _) hlt3 x (by rw [← Hhr0.out]; exact (hset.mem x).1 hx)).2)
          clear hset hown hNL hkn hb ct gl
          go_wp2
          go_loopw [91] (fun i wr => E4Rel w v E order ranks base h Aa ca Ao co Ar cr nb gu gd w.heap.size r done higher AL L i wr) (fun i _ => L.length - (intOf i).toNat)
          case atStart => exact ⟨0, _, Nat.zero_le _, rfl, by simpa [rowE, midH_zero] using HStL.out, HNL.out, HroL.out⟩
          case round =>
            obtain ⟨j, lab2, hj, rfl, hst, hN, hro⟩ := hrel
            clear HStL HroL HNL
            have HSt2 := hid hst
            have HN2 := hid hN
            have Hro2 := hid hro
            obtain ⟨ve4, hH⟩ := hst.own
            have hlH := blk_lt' hH.blk
            by_cases hltj : j < L.length
            · obtain ⟨sj, hsj⟩ : ∃ x, L.getD j 0 = x := ⟨_, rfl⟩
              have hsjm : sj ∈ L := by rw [← hsj, List.getD, List.getElem?_eq_getElem hltj]; exact List.getElem_mem _
              have hsjv : sj < v := (HPart.out.hrng r (Nat.le_refl _) hlt3 sj ((HsetL.out.mem sj).1 hsjm)).2
              obtain ⟨b, o, rfl, hbL, cx⟩ := hN.at_ hltj
              obtain ⟨b', o', hA', _, cp⟩ := hN.at_ (k := 0) (by omega)
              cases hA'
              obtain ⟨p0, hp0⟩ : ∃ x, L.getD 0 0 = x := ⟨_, rfl⟩
              have hp0m : p0 ∈ L := by rw [← hp0, List.getD, List.getElem?_eq_getElem (by omega)]; exact List.getElem_mem _
              have hp0v : p0 < v := (HPart.out.hrng r (Nat.le_refl _) hlt3 p0 ((HsetL.out.mem p0).1 hp0m)).2
              rw [hsj] at cx
              rw [hp0] at cp
              replace cp : wr.cell? ⟨b, o, none⟩ = some (.int .i64 (p0 : Int)) := cp
              have Hsj := hid hsj
              have Hp0 := hid hp0
              have nbr : Hid ((lab2 b).1 = 0) := (hro ⟨b, o, none⟩ rfl).2
              clear hsj hp0 hsjm hp0m hst hN hro hH
              by_cases hj0 : j = 0
              · subst hj0
                replace cx : wr.cell? ⟨b, o, none⟩ = some (.int .i64 (sj : Int)) := cx
                have HStT : Hid (St w wr lab2 base h (hdOf v E order ranks (edgesOf order done ++ rowE order r (L.take 0))) Aa ca Ao co Ar cr nb gu gd w.heap.size (midH higher L (0 + 1))) := by
                  have := HSt2.out
                  rw [midH_zero] at this
                  rw [midH_one]
                  exact this
                have HNT := HN2
                have HroT := Hro2
                obtain ⟨WT, hWT⟩ : ∃ W, W = wr := ⟨_, rfl⟩
                obtain ⟨labT, hlabT⟩ : ∃ l, l = lab2 := ⟨_, rfl⟩
                subst hWT hlabT
                clear HSt2 HN2 Hro2 cp
                go_wp2
                obtain ⟨veT, hHT⟩ := HStT.out.own
                have HOT := hid hHT
                obtain ⟨bo, oo, hAo, hbo, cor⟩ := hHT.order.at_ (k := r) (by show r < order.length; rw [HP.out.olen]; exact hlt3)
                obtain ⟨bo', oo', hAo', _, cos⟩ := hHT.order.at_ (k := sj) (by show sj < order.length; rw [HP.out.olen]; exact hsjv)
                rw [hAo] at hAo'
                cases hAo'
                have c2 : WT.cell? ⟨h, 2, none⟩ = some (.slice (some ⟨bo, oo, none⟩) v co) := by rw [← hAo]; exact hHT.cell 2
                have hlT := blk_lt' hHT.blk
                obtain ⟨xr, hxr⟩ : ∃ x, order.getD r 0 = x := ⟨_, rfl⟩
                obtain ⟨xs, hxs⟩ : ∃ x, order.getD sj 0 = x := ⟨_, rfl⟩
                have hxrv : xr < v := by rw [← hxr]; exact HP.out.olt r hlt3
                have hxsv : xs < v := by rw [← hxs]; exact HP.out.olt sj hsjv
                change WT.cell? ⟨bo, oo + r, none⟩ = some (.int .i64 ((order.getD r 0 : Nat) : Int)) at cor
                change WT.cell? ⟨bo, oo + sj, none⟩ = some (.int .i64 ((order.getD sj 0 : Nat) : Int)) at cos
                rw [hxr] at cor
                rw [hxs] at cos
                have Hxr := hid hxr
                have Hxs := hid hxs
                clear hHT hAo hxr hxs
                go_wp2
                refine still_tail 15 (by kernel_rfl) (by kernel_rfl) ?_
                intro W hW
                have hbW : Below WT.heap.size WT W := by rw [hW.out]; exact (Below.refl _ _).drew
                have hbelW : Below base w W := by rw [hW.out]; exact HStT.out.bel.drew
                have hkW : Keeps (fun _ => False) WT labT W labT := Keeps.below _ hbW
                have HStW := hid (HStT.out.keeps (fun _ _ _ h => h) hkW hbelW)
                have HNW := hid (HNT.out.below hbW)
                have HroW := hid (HroT.out.keeps hkW)
                have HOW := hid (HOT.out.keeps (fun _ _ _ h => h) hkW)
                replace c2 := cell_later hbW c2
                replace cor := cell_later hbW cor
                replace cos := cell_later hbW cos
                have hlW := blk_lt' HOW.out.blk
                clear hbW hbelW hkW hW HStT HNT HroT HOT
                simp only [List.take_succ_cons, List.take_zero, List.drop_succ_cons, List.drop_zero]
                repeat still_step
                refine wpStill_nil ?_
                go_wp2_with fail
                have hel : (edgesOf order done ++ rowE order r (L.take 0)).length ≤ 1099511627775 := by
                  have h1 := edgesOf_len (order := order) (HPart.out.row_le hrn)
                  rw [HPart.out.dlen] at h1
                  have h2 : r * v ≤ 1024 * 1024 := Nat.mul_le_mul (by omega) (by omega)
                  rw [List.length_append, rowE_len, List.length_take]
                  omega
                refine (add_any HOW.out xr xs hxrv hxsv (by simp [hdOf]) (by simp [hdOf]) (by show v ≤ _; omega) hel (by show (((List.range v).map (upOf _)).getD _ []).length ≤ _; rw [up_getD _ _ hxrv]; exact upOf_len _ _) (by show (((List.range v).map (downOf _)).getD _ []).length ≤ _; rw [down_getD _ _ hxsv]; exact downOf_len _ _)).mono ?_
                rintro e w5 ⟨lab5, ve5, rfl, H5, K5, B5⟩
                rw [hdOf_plus hxrv hxsv (by rw [← Hxr.out, ← Hxs.out, ← Hsj.out]; exact fresh_edge HP.out HPart.out hlt3 HsetL.out hltj)] at H5
                have hrow := rowE_take order r L 0 hltj
                rw [Hsj.out, Hxr.out, Hxs.out] at hrow
                rw [List.append_assoc, ← hrow] at H5
                have HR : Hid (E4Rel w v E order ranks base h Aa ca Ao co Ar cr nb gu gd w.heap.size r done higher (some ⟨b, o, none⟩) L (.int .i64 ((0 + 1 : Nat) : Int)) w5) :=
                  ⟨0 + 1, lab5, by omega, rfl, ⟨⟨ve5, H5⟩, HStW.out.tab.keeps (fun i h => by have := h.2; simp at this) K5, HStW.out.bel.trans B5⟩, HroW.out.nats CAdd0 K5 HNW.out, HroW.out.keeps K5⟩
                clear H5 K5 B5 hrow hel c2 cor cos hlW
                go_wp2
                go_roundw
                case rel => first | exact HR.out | ((repeat apply Exists.intro); exact ⟨HR.out, rfl⟩)
                case measure => simp [intOf]; omega
              · have g1 : decide ((0 : Int) < (j : Int)) = true := decide_eq_true (by omega)
                have g2 : decide (0 < j) = true := decide_eq_true (by omega)
                have hL0 : 0 < L.length := by omega
                have hL0' : (0 : Int) < (L.length : Int) := by omega
                obtain ⟨hr1, hhr1⟩ : ∃ R, R = (midH higher L j).getD p0 [] := ⟨_, rfl⟩
                have hml : Hid ((midH higher L j).length = v) := by rw [hid (midH_len higher L j)]; exact HPart.out.hlen
                obtain ⟨v0, ct, own0, lab0, ne0⟩ := HSt2.out.tab.at_ (i := p0) (by rw [hml.out]; exact hp0v)
                rw [← hhr1] at own0
                have fz := HSt2.out.tab.free p0
                have gl := HSt2.out.tab.lt
                have Own0 := hid own0
                have Hhr1 := hid hhr1
                have Hne0 := hid ne0
                have HT8 := hid HSt2.out.tab
                have nxb : Hid (some b ≠ v0.ownBlock) := fun e => by
                  have h1 := lab0 b e.symm
                  have h2 := nbr.out
                  rw [h1] at h2
                  cases h2
                have nl8 : Hid (hr1.length ≤ 2097152) := by
                  rw [hhr1]
                  refine Nat.le_trans (midH_small HPart.out HsetL.out hlt3 j p0 hp0v) ?_
                  have h1 : (r + 1) * v ≤ 1025 * 1024 := Nat.mul_le_mul (by omega) (by omega)
                  omega
                have HBs : Hid (base ≤ wr.heap.size) := Nat.le_trans hbase HSt2.out.bel.size
                have hS1 : Hid (∀ W', Below wr.heap.size wr W' → W'.cell? ⟨b, o, none⟩ = some (.int .i64 (p0 : Int)) ∧ W'.cell? ⟨w.heap.size, p0, none⟩ = some v0) := fun W' h => ⟨cell_later h cp, cell_later h ct⟩
                clear own0 hhr1 ne0 lab0
                go_wp2
                refine wp_region_plan (fun w' => w'.cell? ⟨b, o, none⟩ = some (.int .i64 (p0 : Int)) ∧ w'.cell? ⟨w.heap.size, p0, none⟩ = some v0) 14 [0, 1, 2, 3, 4, 5, 6, 7, 8, 9, 10] [11, 12, 13] (by kernel_rfl) (by kernel_rfl) ⟨cp, ct⟩ ?_
                iterate 11
                  refine readsS_take (v := ?_) rfl (by rfl) ?_ ?_
                  rotate_left
                  · (intro W hSW; (try dsimp only at hSW); go_split_ands; go_simp; try with_reducible rfl)
                  simp only [Act.put, List.setIfInBounds_toArray, List.set_cons_zero, List.set_cons_succ]
                refine readsS_nil ?_
                refine chainS_step rfl (fun K hK => ?_)
                go_simp
                refine hK.out _ _ (hS1.out _ (by exact (below_alloc' (Below.refl _ _) _).drew)) ?_
                clear hK K
                try simp only [Act.put, List.setIfInBounds_toArray, List.set_cons_zero, List.set_cons_succ]
                refine chainS_step rfl (fun K hK => ?_)
                refine step_app1 (by rfl) _ _ 25 3 _ 1 8 (by rfl) Try.underlying25 info_int (by rfl) (by decide) base hr1.length wr.heap.size v0 (hr1.map natv) [.int .i64 (sj : Int)] (by rfl) (by rfl) (by exact new_blk wr _ _) (by exact (Own0.out.alloc _)) (by rfl) (by simp [Value.oneCell']) (by have := nl8.out; omega) (by have := nl8.out; omega) (by have := HBs.out; simp; omega) ?_
                intro v2 w2' hown2 hgrow2 hloc2
                obtain ⟨kc2, kf2⟩ := tab_kept HT8.out (by exact (below_alloc' (Below.refl _ _) _).drew) hgrow2 Hne0.out ct
                obtain ⟨A2, c2, hv2, _, _, _⟩ := own_row hown2
                subst hv2
                have kp : w2'.cell? ⟨b, o, none⟩ = some (.int .i64 (p0 : Int)) := (hgrow2.cell_far _ (by simp; omega) nxb.out).trans (cell_later (by exact (below_alloc' (Below.refl _ _) _).drew) cp)
                refine hK.out _ _ ⟨kp, kc2⟩ ?_
                clear hK K
                try simp only [Act.put, List.setIfInBounds_toArray, List.set_cons_zero, List.set_cons_succ]
                refine chainS_step rfl (fun K hK => ?_)
                go_simp
                refine hK.out _ _ ⟨kp, kc2⟩ ?_
                clear hK K
                try simp only [Act.put, List.setIfInBounds_toArray, List.set_cons_zero, List.set_cons_succ]
                refine chainS_last rfl (fun K hK => ?_)
                go_simp
                refine hK.out _ _ (NoPanic.normal ?_)
                clear hK K
                have T2 := HT8.out.app (by exact (below_alloc' (Below.refl _ _) _).drew) (by rw [hml.out]; exact hp0v) ct hgrow2 (x := sj) (v' := .slice A2 (hr1.length + 1) c2) (by rw [← Hhr1.out]; exact hown2) hloc2
                rw [← Hhr1.out] at T2
                have K2 := app_keeps HT8.out (by exact (below_alloc' (Below.refl _ _) _).drew) (by rw [hml.out]; exact hp0v) ct hgrow2 (v' := .slice A2 (hr1.length + 1) c2) hloc2
                have hnx2 := ((((show Below base w _ from (HSt2.out.bel.alloc (Nat.le_trans hbase HSt2.out.bel.size) _).drew).grown hgrow2 (by have := HBs.out; simp; omega) (fun j hj => (Own0.out.lt j hj).1))).setCell (p := ⟨w.heap.size, p0, none⟩) hbase (.slice A2 (hr1.length + 1) c2))
                obtain ⟨WT, hWT⟩ : ∃ W, W = w2'.setCell ⟨w.heap.size, p0, none⟩ (.slice A2 (hr1.length + 1) c2) := ⟨_, rfl⟩
                rw [← hWT] at T2 K2 hnx2 ⊢
                obtain ⟨labT, hlabT⟩ : ∃ l, l = relab lab2 (.slice A2 (hr1.length + 1) c2) 5 p0 := ⟨_, rfl⟩
                rw [← hlabT] at T2 K2
                have hC : ∀ c i, c ≤ 4 → ¬ ((fun p : Nat × Nat => p.1 = 5) (c, i)) := fun c i hc h => by simp at h; omega
                have hC0 : ∀ i, ¬ ((fun p : Nat × Nat => p.1 = 5) (0, i)) := fun i h => by simp at h
                have HStT : Hid (St w WT labT base h (hdOf v E order ranks (edgesOf order done ++ rowE order r (L.take j))) Aa ca Ao co Ar cr nb gu gd w.heap.size (midH higher L (j + 1))) := by
                  obtain ⟨ve5, h5⟩ := HSt2.out.own
                  refine ⟨⟨ve5, h5.keeps hC K2⟩, ?_, hnx2⟩
                  rw [midH_step higher L j (by omega) hltj (by rw [Hp0.out, HPart.out.hlen]; exact hp0v), Hp0.out, Hsj.out, ← Hhr1.out]
                  exact T2
                have HNT := hid (Hro2.out.nats hC0 K2 HN2.out)
                have HroT := hid (Hro2.out.keeps K2)
                clear hC hC0 T2 K2 hnx2 hWT hlabT hown2 hgrow2 hloc2 kp kc2 kf2 cp ct cx hS1 fz gl HSt2 HN2 Hro2 HT8 Own0 Hne0 nxb nbr hlH hbL
                obtain ⟨veT, hHT⟩ := HStT.out.own
                have HOT := hid hHT
                obtain ⟨bo, oo, hAo, hbo, cor⟩ := hHT.order.at_ (k := r) (by show r < order.length; rw [HP.out.olen]; exact hlt3)
                obtain ⟨bo', oo', hAo', _, cos⟩ := hHT.order.at_ (k := sj) (by show sj < order.length; rw [HP.out.olen]; exact hsjv)
                rw [hAo] at hAo'
                cases hAo'
                have c2 : WT.cell? ⟨h, 2, none⟩ = some (.slice (some ⟨bo, oo, none⟩) v co) := by rw [← hAo]; exact hHT.cell 2
                have hlT := blk_lt' hHT.blk
                obtain ⟨xr, hxr⟩ : ∃ x, order.getD r 0 = x := ⟨_, rfl⟩
                obtain ⟨xs, hxs⟩ : ∃ x, order.getD sj 0 = x := ⟨_, rfl⟩
                have hxrv : xr < v := by rw [← hxr]; exact HP.out.olt r hlt3
                have hxsv : xs < v := by rw [← hxs]; exact HP.out.olt sj hsjv
                change WT.cell? ⟨bo, oo + r, none⟩ = some (.int .i64 ((order.getD r 0 : Nat) : Int)) at cor
                change WT.cell? ⟨bo, oo + sj, none⟩ = some (.int .i64 ((order.getD sj 0 : Nat) : Int)) at cos
                rw [hxr] at cor
                rw [hxs] at cos
                have Hxr := hid hxr
                have Hxs := hid hxs
                clear hHT hAo hxr hxs
                go_wp2
                refine still_tail 15 (by kernel_rfl) (by kernel_rfl) ?_
                intro W hW
                have hbW : Below WT.heap.size WT W := by rw [hW.out]; exact (Below.refl _ _).drew
                have hbelW : Below base w W := by rw [hW.out]; exact HStT.out.bel.drew
                have hkW : Keeps (fun _ => False) WT labT W labT := Keeps.below _ hbW
                have HStW := hid (HStT.out.keeps (fun _ _ _ h => h) hkW hbelW)
                have HNW := hid (HNT.out.below hbW)
                have HroW := hid (HroT.out.keeps hkW)
                have HOW := hid (HOT.out.keeps (fun _ _ _ h => h) hkW)
                replace c2 := cell_later hbW c2
                replace cor := cell_later hbW cor
                replace cos := cell_later hbW cos
                have hlW := blk_lt' HOW.out.blk
                clear hbW hbelW hkW hW HStT HNT HroT HOT
                simp only [List.take_succ_cons, List.take_zero, List.drop_succ_cons, List.drop_zero]
                repeat still_step
                refine wpStill_nil ?_
                go_wp2_with fail
                have hel : (edgesOf order done ++ rowE order r (L.take j)).length ≤ 1099511627775 := by
                  have h1 := edgesOf_len (order := order) (HPart.out.row_le hrn)
                  rw [HPart.out.dlen] at h1
                  have h2 : r * v ≤ 1024 * 1024 := Nat.mul_le_mul (by omega) (by omega)
                  rw [List.length_append, rowE_len, List.length_take]
                  omega
                refine (add_any HOW.out xr xs hxrv hxsv (by simp [hdOf]) (by simp [hdOf]) (by show v ≤ _; omega) hel (by show (((List.range v).map (upOf _)).getD _ []).length ≤ _; rw [up_getD _ _ hxrv]; exact upOf_len _ _) (by show (((List.range v).map (downOf _)).getD _ []).length ≤ _; rw [down_getD _ _ hxsv]; exact downOf_len _ _)).mono ?_
                rintro e w5 ⟨lab5, ve5, rfl, H5, K5, B5⟩
                rw [hdOf_plus hxrv hxsv (by rw [← Hxr.out, ← Hxs.out, ← Hsj.out]; exact fresh_edge HP.out HPart.out hlt3 HsetL.out hltj)] at H5
                have hrow := rowE_take order r L j hltj
                rw [Hsj.out, Hxr.out, Hxs.out] at hrow
                rw [List.append_assoc, ← hrow] at H5
                have HR : Hid (E4Rel w v E order ranks base h Aa ca Ao co Ar cr nb gu gd w.heap.size r done higher (some ⟨b, o, none⟩) L (.int .i64 ((j + 1 : Nat) : Int)) w5) :=
                  ⟨j + 1, lab5, by omega, rfl, ⟨⟨ve5, H5⟩, HStW.out.tab.keeps (fun i h => by have := h.2; simp at this) K5, HStW.out.bel.trans B5⟩, HroW.out.nats CAdd0 K5 HNW.out, HroW.out.keeps K5⟩
                clear H5 K5 B5 hrow hel c2 cor cos hlW
                go_wp2
                go_roundw
                case rel => first | exact HR.out | ((repeat apply Exists.intro); exact ⟨HR.out, rfl⟩)
                case measure => simp [intOf]; omega
            · have : j = L.length := by omega
              subst this
              clear hst hN hro hH
              go_wp2
              go_roundw
              case rel =>
                have hR : E3Rel w v E order ranks base h Aa ca Ao co Ar cr nb gu gd w.heap.size (.int .i64 ((r + 1 : Nat) : Int)) wr := by
                  refine ⟨r + 1, lab2, done ++ [L], midH higher L L.length, by omega, rfl, HPart.out.step hlt3 HsetL.out, ?_⟩
                  have := HSt2.out
                  rw [List.take_length] at this
                  rw [edgesOf_snoc, HPart.out.dlen]
                  exact this
                first | exact hR | ((repeat apply Exists.intro); exact ⟨hR, rfl⟩)
              case measure => simp [intOf]; omega
        · have : r = v := by omega
          subst this
          clear hpart hst
          go_wp2
          obtain ⟨ve2, hO⟩ := HSt.out.own
          exact bodyPost_ret (v := .tuple #[]) (by simp [results, Try.results71, go_sem]) rfl ⟨lab1, done, ve2, rfl, HPart.out.elim, hO, HSt.out.bel⟩

end Go.Proofs.Ytpfjannhggcmiaa
