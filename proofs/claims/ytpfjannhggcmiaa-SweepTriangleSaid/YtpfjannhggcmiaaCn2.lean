/- Contract of custom.New on correct weights: the metric of a hierarchy. -/
import Derived.Test.YtpfjannhggcmiaaCn1
namespace Go.Proofs.Ytpfjannhggcmiaa
open Go.RowKit Go.Maps

/-- A metric and no error. -/
def RetMet (w : World) (h : Nat) (n : Nat) (E : List (Nat × Nat)) (ws : List Int) (order ranks : List Nat) (edges : List (Nat × Nat)) (en : Ending) (w' : World) : Prop :=
  ∃ m M, en = .returned (.tuple #[.pointer (some ⟨m, 0, none⟩), .int .i64 0]) ∧ MetAt w' m h M ∧ Good n E ws order ranks edges M ∧ w.heap.size ≤ m ∧ Below w.heap.size w w'
/-- The values of New's parts. -/
def CnT (ws : List Int) (k : Nat) (i : Nat) (v : Value) (w : World) : Prop :=
  if i = 2 then WholeI v ws w else if i = 5 then WholeT v k w else WholeI v (List.replicate k 0) w
theorem CnT.stable {ws : List Int} {k : Nat} (i : Nat) (v : Value) (w w' : World) (h : CnT ws k i v w) (hb : Below w.heap.size w w') : CnT ws k i v w' := by
  unfold CnT at *
  split
  · rename_i e; rw [if_pos e] at h; exact h.below hb
  · rename_i e; rw [if_neg e] at h
    split
    · rename_i e2; rw [if_pos e2] at h; exact h.below hb
    · rename_i e2; rw [if_neg e2] at h; exact h.below hb
theorem rep_map (k : Nat) : ((List.replicate k (0 : Int)).map intv).toArray = Array.replicate k (.int .i64 0) := by simp [intv]
/-- The first loop. -/
def Cn1Rel (W8 : World) (D : HD) (m h gw ga gu gd : Nat) (ws : List Int) (i : Value) (wr : World) : Prop :=
  ∃ (k : Nat) (lab : Lab), k ≤ D.arcs.length ∧ i = .int .i64 k ∧ MOwn wr lab W8.heap.size m h gw ga gu gd ws (arcsUp D k) (List.replicate D.edges.length 0) (List.replicate D.edges.length 0) ∧ Below W8.heap.size W8 wr
/-- The second loop. -/
def Cn2Rel (W8 : World) (D : HD) (m h gw ga gu gd : Nat) (ws : List Int) (i : Value) (wr : World) : Prop :=
  ∃ (k : Nat) (lab : Lab) (us ds : List Int), k ≤ D.edges.length ∧ i = .int .i64 k ∧ MOwn wr lab W8.heap.size m h gw ga gu gd ws (arcsOf D) us ds ∧ Part2 D ws k us ds ∧ Below W8.heap.size W8 wr

set_option maxRecDepth 100000 in
set_option maxHeartbeats 8000000 in
theorem cnew_good {n : Nat} {E : List (Nat × Nat)} {order ranks : List Nat} {edges : List (Nat × Nat)} {ws : List Int} {w : World} {h : Nat} (H : HierAt w h (hdOf n E order ranks edges)) (hg : HG n E order ranks edges) (B : Option Addr) (d : Nat) (hw : Ints w B ws) (hG : GraphOk n E ws) :
    Calls Try.prog 41 #[.pointer (some ⟨h, 0, none⟩), .slice B ws.length d] w (RetMet w h n E ws order ranks edges) := by
  have HH := hid H
  have Hg := hid hg
  have Hw := hid hw
  have HG' := hid hG
  have lh := H.lt
  have hEl := hG.e_le
  have hwl : ws.length ≤ 4194304 := by have := hG.w_len; omega
  have hedl : edges.length ≤ 1099511627776 := H.ok.edges_len
  have hEN : Hid (EndsOk n E) := hG.ends
  have EGC := hid (fun args w => enter_of (Try.func74) (by kernel_rfl) rfl args w)
  have EGW := hid (fun args w => enter_of (Try.func76) (by kernel_rfl) rfl args w)
  clear H hg hw hG
  go_enter Try.func41, Try.ntmps41
  go_wp2_with fail
  refine (show Calls _ _ _ _ (RetGraphOwn w n E) from graph_own HH.out).mono ?_
  rintro en w1 ⟨v1, rfl, hv1, hb1⟩
  obtain ⟨A4, c4, rfl, hc4, hf4, hN4⟩ := own_arcs hv1
  have HB1 := hid hb1
  have HN4 := hid hN4
  clear hb1 hN4 hv1 hf4
  go_wp2_with fail
  refine (dijkstra_ok n E ws A4 B c4 d _ HG'.out (by exact HN4.out.below (below_alloc' (Below.refl _ _) _)) (by exact (Hw.out.below HB1.out).below (below_alloc' (Below.refl _ _) _))).mono ?_
  rintro en w2 ⟨rfl, hb2⟩
  have kb : w2.heap[w1.heap.size]? = some (.cells #[.int .i64 (n : Int), .slice A4 E.length c4] 24 (0, 0)) := blk_below (new_blk w1 _ _) hb2
  have hb12 : Below w1.heap.size w1 w2 := below_then' (below_alloc' (Below.refl _ _) _) hb2
  have HB2 := hid (below_then' HB1.out hb12)
  have HN42 := hid (HN4.out.below hb12)
  have Kb := hid kb
  have hg1 : w.heap.size ≤ w1.heap.size := HB1.out.size
  have HG1 := hid hg1
  clear hb2 kb hb12 hg1
  go_wp2_with fail
  refine (show Calls _ _ _ _ (RetArcsOwn w2 edges) from edges_own (HH.out.below HB2.out)).mono ?_
  rintro en w3 ⟨v8, rfl, hv8, hb3⟩
  obtain ⟨A8, c8, rfl, hc8, _, _⟩ := own_arcs hv8
  have HB3 := hid (below_then' HB2.out hb3)
  have HN43 := hid (HN42.out.below hb3)
  have Kb3 := hid (blk_below Kb.out hb3)
  clear hb3 hv8 HN42 Kb HN4
  go_wp2
  refine wp_region_eff (fun _ => True) 14 [0, 1, 3, 4, 6, 7, 9, 10] [(2, some 29), (5, some 32), (8, some 35), (11, some 38)] [12, 13] (fun _ => []) (FrI w3.drew (CnT ws edges.length)) (by kernel_rfl) (by unfold sepE; simp) (by kernel_rfl) trivial ?_
  iterate 8
    refine readsS_take (v := ?_) rfl (by rfl) ?_ ?_
    rotate_left
    · (intro W hSW; (try dsimp only at hSW); go_split_ands; go_simp; try with_reducible rfl)
    simp only [Act.put, List.setIfInBounds_toArray, List.set_cons_zero, List.set_cons_succ]
  refine readsS_nil ?_
  have HBd : Hid (Below w.heap.size w w3.drew) := HB3.out.drew
  refine EffS_gen ?_
  intro a0 ha0
  have e28 : a0.eval (.tmp 28) = .slice B ws.length d := by rw [ha0]; kernel_rfl
  have e31 : a0.eval (.tmp 31) = .int .i64 (edges.length : Int) := by rw [ha0]; kernel_rfl
  have e34 : a0.eval (.tmp 34) = .int .i64 (edges.length : Int) := by rw [ha0]; kernel_rfl
  have e37 : a0.eval (.tmp 37) = .int .i64 (edges.length : Int) := by rw [ha0]; kernel_rfl
  refine ⟨?start, ?keep, ?step, ?fin⟩
  case start => exact FrI.start _ _ _
  case keep => intro done f w' hI; trivial
  case step =>
    intro i hnum done f w' hdone hdeps hI o ho
    simp only [numE, List.any_cons, List.any_nil, Bool.or_false, Bool.or_eq_true, beq_iff_eq] at hnum
    rcases hnum with rfl | rfl | rfl | rfl
    · obtain rfl := Option.some.inj ho
      have hb := HBd.out.trans (hI.bel.mono HBd.out.size)
      refine does_call1 rfl rfl ((eval_other (by simp)).trans e28) EGC.out ?_
      refine (copied_any B ws d w' (Hw.out.below hb) (by omega)).mono ?_
      rintro en w4 ⟨g, rfl, hg0, hblk, hb4⟩
      exact ⟨_, rfl, hI.add CnT.stable 2 hb4 (by unfold CnT; rw [if_pos rfl]; exact ⟨g, rfl, hblk⟩) (fun k hk => by cases hk; exact ⟨hg0, blk_lt' hblk⟩)⟩
    · obtain rfl := Option.some.inj ho
      refine does_make rfl (by rw [(eval_other (by simp)).trans e31]; exact run_make_rows edges.length (by omega) w') ?_
      exact hI.add CnT.stable 5 (below_alloc' (Below.refl _ _) _) (by unfold CnT; rw [if_neg (by decide), if_pos rfl]; exact ⟨_, rfl, new_blk w' _ _⟩) (fun k hk => by cases hk; exact ⟨Nat.le_refl _, by simp⟩)
    · obtain rfl := Option.some.inj ho
      refine does_make rfl (by rw [(eval_other (by simp)).trans e34]; exact run_make_ints edges.length (by omega) w') ?_
      exact hI.add CnT.stable 8 (below_alloc' (Below.refl _ _) _) (by unfold CnT; rw [if_neg (by decide), if_neg (by decide)]; exact ⟨w'.heap.size, by simp, by rw [rep_map]; exact new_blk w' _ _⟩) (fun k hk => by cases hk; exact ⟨Nat.le_refl _, by simp⟩)
    · obtain rfl := Option.some.inj ho
      refine does_make rfl (by rw [(eval_other (by simp)).trans e37]; exact run_make_ints edges.length (by omega) w') ?_
      exact hI.add CnT.stable 11 (below_alloc' (Below.refl _ _) _) (by unfold CnT; rw [if_neg (by decide), if_neg (by decide)]; exact ⟨w'.heap.size, by simp, by rw [rep_map]; exact new_blk w' _ _⟩) (fun k hk => by cases hk; exact ⟨Nat.le_refl _, by simp⟩)
  case fin =>
    intro done f w' hall hI
    have d2 := hall (2, some 29) (by simp)
    have d5 := hall (5, some 32) (by simp)
    have d8 := hall (8, some 35) (by simp)
    have d11 := hall (11, some 38) (by simp)
    have v2 := hI.val 2 d2
    have v5 := hI.val 5 d5
    have v8 := hI.val 8 d8
    have v11 := hI.val 11 d11
    unfold CnT at v2 v5 v8 v11
    rw [if_pos rfl] at v2
    rw [if_neg (by decide), if_pos rfl] at v5
    rw [if_neg (by decide), if_neg (by decide)] at v8 v11
    obtain ⟨gw, hf2, hbw⟩ := v2
    obtain ⟨ga, hf5, hba⟩ := v5
    obtain ⟨gu, hf8, hbu⟩ := v8
    obtain ⟨gd, hf11, hbd⟩ := v11
    rw [List.length_replicate] at hf8 hf11
    have o2 : (f 2).ownBlock = some gw := by rw [hf2]; rfl
    have o5 : (f 5).ownBlock = some ga := by rw [hf5]; rfl
    have o8 : (f 8).ownBlock = some gu := by rw [hf8]; rfl
    have o11 : (f 11).ownBlock = some gd := by rw [hf11]; rfl
    have nwa : ga ≠ gw := fun e => hI.ne 2 5 (by decide) d2 d5 gw o2 (by rw [o5, e])
    have nwu : gu ≠ gw := fun e => hI.ne 2 8 (by decide) d2 d8 gw o2 (by rw [o8, e])
    have nwd : gd ≠ gw := fun e => hI.ne 2 11 (by decide) d2 d11 gw o2 (by rw [o11, e])
    have nau : gu ≠ ga := fun e => hI.ne 5 8 (by decide) d5 d8 ga o5 (by rw [o8, e])
    have nad : gd ≠ ga := fun e => hI.ne 5 11 (by decide) d5 d11 ga o5 (by rw [o11, e])
    have nud : gd ≠ gu := fun e => hI.ne 8 11 (by decide) d8 d11 gu o8 (by rw [o11, e])
    have bw := hI.blk 2 d2 gw o2
    have ba := hI.blk 5 d5 ga o5
    have bu := hI.blk 8 d8 gu o8
    have bd := hI.blk 11 d11 gd o11
    rw [ha0]
    unfold putAll
    simp only [List.foldl_cons, List.foldl_nil, Act.put, List.setIfInBounds_toArray, List.set_cons_zero, List.set_cons_succ, hf2, hf5, hf8, hf11]
    refine chainS_step rfl (fun K hK => ?_)
    go_simp
    refine hK.out _ _ trivial ?_
    clear hK K
    try simp only [Act.put, List.setIfInBounds_toArray, List.set_cons_zero, List.set_cons_succ]
    refine chainS_step rfl (fun K hK => ?_)
    go_simp
    refine hK.out _ _ trivial ?_
    clear hK K
    try simp only [Act.put, List.setIfInBounds_toArray, List.set_cons_zero, List.set_cons_succ]
    refine chainS_last rfl (fun K hK => ?_)
    go_simp
    refine hK.out _ _ (NoPanic.normal ?_)
    clear hK K
    have hEn : Hid (edges.length = (hdOf n E order ranks edges).edges.length) := rfl
    have HM0 : MOwn (w'.alloc (.cells #[.pointer (some ⟨h, 0, none⟩), .slice (some ⟨gw, 0, none⟩) ws.length ws.length, .slice (some ⟨ga, 0, none⟩) edges.length edges.length, .slice (some ⟨gu, 0, none⟩) edges.length edges.length, .slice (some ⟨gd, 0, none⟩) edges.length edges.length] 119))
        (fun k => if k = w'.heap.size then (4, 0) else if k = gw then (4, 1) else if k = gu then (2, 0) else if k = gd then (3, 0) else if k = ga then (1, edges.length) else (0, 0)) w3.drew.heap.size w'.heap.size h gw ga gu gd ws (arcsUp (hdOf n E order ranks edges) 0) (List.replicate edges.length 0) (List.replicate edges.length 0) := by
      have lw := bw.2
      have la := ba.2
      have lu := bu.2
      have ld := bd.2
      have hz := hI.bel.size
      have hal := below_alloc' (Below.refl _ w') (.cells #[.pointer (some ⟨h, 0, none⟩), .slice (some ⟨gw, 0, none⟩) ws.length ws.length, .slice (some ⟨ga, 0, none⟩) edges.length edges.length, .slice (some ⟨gu, 0, none⟩) edges.length edges.length, .slice (some ⟨gd, 0, none⟩) edges.length edges.length] 119)
      refine ⟨⟨hz, bw.1, bu.1, bd.1⟩, by simp, ?_, ?_, ?_, ?_, blk_below hbw hal, ?_, blk_below hbu hal, blk_below hbd hal⟩
      · rw [if_neg (by omega), if_pos rfl]
      · rw [if_neg (by omega), if_neg nwu, if_pos rfl]
      · rw [if_neg (by omega), if_neg nwd, if_neg nud, if_pos rfl]
      · rw [arcsUp_len, ← hEn.out, List.length_replicate]
        exact new_blk w' _ _
      · rw [arcsUp_zero, ← hEn.out]
        refine TabAt.made ba.1 ?_ (blk_below hba hal)
        rw [if_neg (by omega), if_neg nwa, if_neg (Ne.symm nau), if_neg (Ne.symm nad), if_pos rfl]
    obtain ⟨W8, hW8⟩ : ∃ W8, W8 = w3.drew := ⟨_, rfl⟩
    have HB8 : Hid (Below w.heap.size w W8) := by rw [hW8]; exact HBd.out
    have HN48 : Hid (Arcs W8 A4 E) := by rw [hW8]; exact HN43.out.below (Below.refl _ _).drew
    have Kb8 : Hid (W8.heap[w1.heap.size]? = some (.cells #[.int .i64 (n : Int), .slice A4 E.length c4] 24 (0, 0))) := by rw [hW8]; exact Kb3.out
    have hb8 : Below W8.heap.size W8 w' := by rw [hW8]; exact hI.bel
    rw [← hW8] at HM0
    have HM0' := hid HM0
    clear HM0 hI hbw hba hbu hbd o2 o5 o8 o11 hf2 hf5 hf8 hf11 d2 d5 d8 d11 nwa nwu nwd nau nad nud e28 e31 e34 e37 ha0 hall HBd HN43 Kb3 hW8 bw ba bu bd
    obtain ⟨m, hm⟩ : ∃ m, m = w'.heap.size := ⟨_, rfl⟩
    rw [← hm] at HM0' ⊢
    obtain ⟨W9, hW9⟩ : ∃ W9, W9 = w'.alloc (.cells #[.pointer (some ⟨h, 0, none⟩), .slice (some ⟨gw, 0, none⟩) ws.length ws.length, .slice (some ⟨ga, 0, none⟩) edges.length edges.length, .slice (some ⟨gu, 0, none⟩) edges.length edges.length, .slice (some ⟨gd, 0, none⟩) edges.length edges.length] 119) := ⟨_, rfl⟩
    have HB9 : Hid (Below W8.heap.size W8 W9) := by rw [hW9]; exact below_alloc' hb8 _
    rw [← hW9] at HM0' ⊢
    clear hW9 hm hb8
    have kg : W9.cell? ⟨w1.heap.size, 1, none⟩ = some (.slice A4 E.length c4) := blk_cell' (blk_below Kb8.out HB9.out) 1
    have kl := blk_lt' (blk_below Kb8.out HB9.out)
    go_wp2
    go_loopw [44] (fun i wr => Cn1Rel W8 (hdOf n E order ranks edges) m h gw ga gu gd ws i wr) (fun i _ => E.length - (intOf i).toNat)
    case atStart => exact ⟨0, _, Nat.zero_le _, rfl, HM0'.out, HB9.out⟩
    case round =>
      obtain ⟨k, lab, hk, rfl, hM, hnx⟩ := hrel
      replace hk : k ≤ E.length := hk
      have Hnx := hid hnx
      have HM1 := hid hM
      clear hM kg kl HM0' HB9
      by_cases hlt : k < E.length
      · obtain ⟨b, o, rfl, hb, cx0, cx1⟩ := HN48.out.at_ hlt
        have hends := hEN.out k hlt
        obtain ⟨x, y, hxy⟩ : ∃ x y, E.getD k (0, 0) = (x, y) := ⟨_, _, rfl⟩
        rw [hxy] at cx0 cx1 hends
        obtain ⟨hx, hy⟩ := hends
        dsimp only at cx0 cx1 hx hy
        replace cx0 := cell_later hnx cx0
        replace cx1 := cell_later hnx cx1
        have hbw : b < wr.heap.size := Nat.lt_of_lt_of_le hb hnx.size
        have Hxy := hid hxy
        have HHr := hid (HH.out.below (HB8.out.trans (hnx.mono HB8.out.size)))
        clear hxy hnx
        cases hfd : (hdOf n E order ranks edges).find x y with
        | none =>
          have Hfd := hid hfd
          clear hfd
          go_wp2_with fail
          refine (find_none x y (HHr.out.below (below_alloc' (Below.refl _ _) _)) hx hy Hfd.out).mono ?_
          rintro en w5 ⟨rfl, hb5⟩
          have hbr : Below wr.heap.size wr w5 := below_then' (below_alloc' (Below.refl _ _) _) hb5
          have Hbr := hid hbr
          clear hb5 hbr
          go_wp2
          go_roundw
          case rel =>
            have hR : Cn1Rel W8 (hdOf n E order ranks edges) m h gw ga gu gd ws (.int .i64 ((k + 1 : Nat) : Int)) w5 :=
              ⟨k + 1, lab, hlt, rfl, by rw [arcsUp_none _ (by show (hdOf n E order ranks edges).find (E.getD k (0, 0)).1 (E.getD k (0, 0)).2 = none; rw [Hxy.out]; exact Hfd.out)]; exact HM1.out.below Hbr.out, Hnx.out.trans (Hbr.out.mono Hnx.out.size)⟩
            first | exact hR | ((repeat apply Exists.intro); exact ⟨hR, rfl⟩)
          case measure => simp [intOf]; omega
        | some e =>
          have hel : e < edges.length := HHr.out.ok.num_lt2 hfd
          have Hfd := hid hfd
          clear hfd
          go_wp2_with fail
          refine (find_some x y (HHr.out.below (below_alloc' (Below.refl _ _) _)) hx hy Hfd.out).mono ?_
          rintro en w5 ⟨rfl, hb5⟩
          have hbr : Below wr.heap.size wr w5 := below_then' (below_alloc' (Below.refl _ _) _) hb5
          have Hbr := hid hbr
          have HM5 := hid (HM1.out.below hbr)
          have Hnx5 := hid (Hnx.out.trans (hbr.mono Hnx.out.size))
          clear hb5 hbr
          have hbm := HM5.out.blk
          rw [arcsUp_len, List.length_replicate, ← hEn.out] at hbm
          have c2 : w5.cell? ⟨m, 2, none⟩ = some (.slice (some ⟨ga, 0, none⟩) edges.length edges.length) := blk_cell' hbm 2
          have lm5 := blk_lt' hbm
          obtain ⟨v0, cv, own0, lab0, ne0⟩ := HM5.out.tab.at_ (i := e) (by rw [arcsUp_len]; exact hel)
          have fz := HM5.out.tab.free e
          obtain ⟨re, hre⟩ : ∃ R, R = (arcsUp (hdOf n E order ranks edges) k).getD e [] := ⟨_, rfl⟩
          rw [← hre] at own0
          have hrl : re.length ≤ k := by
            rw [hre, arcsUp_getD _ _ hel]
            exact Nat.le_trans (List.length_filter_le _ _) (by simp)
          have nl := hid hrl
          have Own0 := hid own0
          have HT := hid HM5.out.tab
          have Hne0 := hid ne0
          have Hre := hid hre
          have Hlab0 := hid lab0
          have gl : ga < w5.heap.size := HM5.out.tab.lt
          have hm5 : m ≠ ga := by rintro e2; have := HM5.out.labm; rw [e2] at this; obtain ⟨_, h2, _⟩ := HM5.out.tab; rw [this] at h2; cases h2
          have Hnmv : Hid (some m ≠ v0.ownBlock) := fun e2 => by have := lab0 m e2.symm; rw [HM5.out.labm] at this; cases this
          have Hbm := hid hbm
          have Hm5 := hid hm5
          have HBs : Hid (W8.heap.size ≤ w5.heap.size) := Hnx5.out.size
          have hS1 : Hid (∀ W', Below w5.heap.size w5 W' → W'.cell? ⟨m, 2, none⟩ = some (.slice (some ⟨ga, 0, none⟩) edges.length edges.length) ∧ W'.cell? ⟨ga, e, none⟩ = some v0) := fun W' h => ⟨cell_later h c2, cell_later h cv⟩
          clear own0 lab0 ne0 hre hrl hbm hm5
          go_wp2
          refine wp_region_plan (fun w' => w'.cell? ⟨m, 2, none⟩ = some (.slice (some ⟨ga, 0, none⟩) edges.length edges.length) ∧ w'.cell? ⟨ga, e, none⟩ = some v0) 16 [0, 1, 2, 3, 4, 5, 6, 7, 8, 9, 10, 11, 12] [13, 14, 15] (by kernel_rfl) (by kernel_rfl) ⟨c2, cv⟩ ?_
          iterate 13
            refine readsS_take (v := ?_) rfl (by rfl) ?_ ?_
            rotate_left
            · (intro W hSW; (try dsimp only at hSW); go_split_ands; go_simp; try with_reducible rfl)
            simp only [Act.put, List.setIfInBounds_toArray, List.set_cons_zero, List.set_cons_succ]
          refine readsS_nil ?_
          refine chainS_step rfl (fun K hK => ?_)
          go_simp
          refine hK.out _ _ (hS1.out _ (by exact (below_alloc' (Below.refl _ _) _).drew)) ?_
          clear hK K
          try simp only [Act.put, List.setIfInBounds_toArray, List.set_cons_zero, List.set_cons_succ]
          refine chainS_step rfl (fun K hK => ?_)
          refine step_app1 (by rfl) _ _ 25 3 _ 1 8 (by rfl) Try.underlying25 info_int (by rfl) (by decide) W8.heap.size re.length w5.heap.size v0 (re.map natv) [.int .i64 (k : Int)] (by rfl) (by rfl) (by exact new_blk w5 _ _) (by exact (Own0.out.alloc _)) (by rfl) (by simp [Value.oneCell']) (by have := nl.out; omega) (by have := nl.out; omega) (by have := HBs.out; simp; omega) ?_
          intro v2 w2' hown2 hgrow2 hloc2
          obtain ⟨kc2, kf2⟩ := tab_kept HT.out (by exact (below_alloc' (Below.refl _ _) _).drew) hgrow2 Hne0.out cv
          obtain ⟨A2, c2, hv2, _, _, _⟩ := own_row hown2
          subst hv2
          have hbm2 := blk_grown (by exact blk_below Hbm.out (below_alloc' (Below.refl _ _) _).drew) hgrow2 Hnmv.out
          have k2 : w2'.cell? ⟨m, 2, none⟩ = some (.slice (some ⟨ga, 0, none⟩) edges.length edges.length) := blk_cell' hbm2 2
          refine hK.out _ _ ⟨k2, kc2⟩ ?_
          clear hK K
          try simp only [Act.put, List.setIfInBounds_toArray, List.set_cons_zero, List.set_cons_succ]
          refine chainS_step rfl (fun K hK => ?_)
          go_simp
          refine hK.out _ _ ⟨k2, kc2⟩ ?_
          clear hK K
          try simp only [Act.put, List.setIfInBounds_toArray, List.set_cons_zero, List.set_cons_succ]
          refine chainS_last rfl (fun K hK => ?_)
          go_simp
          refine hK.out _ _ (NoPanic.normal ?_)
          clear hK K
          obtain ⟨lab2, HM6⟩ := HM5.out.app (by exact (below_alloc' (Below.refl _ _) _).drew) (by rw [arcsUp_len]; exact hel) cv hgrow2 (x := k) (v' := .slice A2 (re.length + 1) c2) (by rw [← Hre.out]; exact hown2) hloc2
          have hnx6 := (((show Below W8.heap.size W8 _ from (below_alloc' Hnx5.out _).drew).grown hgrow2 (by have := HBs.out; simp; omega) (fun j hj => (Own0.out.lt j hj).1))).setCell (p := ⟨ga, e, none⟩) HT.out.base_le (.slice A2 (re.length + 1) c2)
          rw [← arcsUp_some (hdOf n E order ranks edges) (k := k) (by show (hdOf n E order ranks edges).find (E.getD k (0, 0)).1 (E.getD k (0, 0)).2 = some e; rw [Hxy.out]; exact Hfd.out) hel] at HM6
          have HM6' := hid HM6
          have Hnx6 := hid hnx6
          clear HM6 hnx6 hown2 hgrow2 hloc2 kc2 kf2 k2 hbm2
          go_wp2
          go_roundw
          case rel =>
            have hR : Cn1Rel W8 (hdOf n E order ranks edges) m h gw ga gu gd ws (.int .i64 ((k + 1 : Nat) : Int)) _ := ⟨k + 1, lab2, hlt, rfl, HM6'.out, Hnx6.out⟩
            first | exact hR | ((repeat apply Exists.intro); exact ⟨hR, rfl⟩)
          case measure => simp [intOf]; omega
      · have : k = E.length := by omega
        subst this
        have hcont : Hid (arcsUp (hdOf n E order ranks edges) E.length = arcsOf (hdOf n E order ranks edges)) := rfl
        rw [hcont.out] at HM1
        clear hnx
        go_wp2
        go_loopw [78] (fun i wr => Cn2Rel W8 (hdOf n E order ranks edges) m h gw ga gu gd ws i wr) (fun i _ => edges.length - (intOf i).toNat)
        case atStart => exact ⟨0, lab, _, _, Nat.zero_le _, rfl, HM1.out, Part2.start _ _, Hnx.out⟩
        case round =>
          obtain ⟨k, lab, us, ds, hk, rfl, hM, hP, hnx⟩ := hrel
          replace hk : k ≤ edges.length := hk
          have Hnx2 := hid hnx
          have HM2 := hid hM
          have HP := hid hP
          clear hM HM1 Hnx hP hlt
          have hul : us.length = edges.length := HP.out.ul
          have hdl : ds.length = edges.length := HP.out.dl
          have HUL := hid hul
          have HDL := hid hdl
          by_cases hlt : k < edges.length
          · have HHr := hid (HH.out.below (HB8.out.trans (hnx.mono HB8.out.size)))
            have hbm := HM2.out.blk
            rw [hul, hdl] at hbm
            have c3 : wr.cell? ⟨m, 3, none⟩ = some (.slice (some ⟨gu, 0, none⟩) edges.length edges.length) := blk_cell' hbm 3
            have c4' : wr.cell? ⟨m, 4, none⟩ = some (.slice (some ⟨gd, 0, none⟩) edges.length edges.length) := blk_cell' hbm 4
            have lm := blk_lt' hbm
            have hwl2 : ws.length = (hdOf n E order ranks edges).arcs.length := HG'.out.w_len
            have HMt := hid ((HM2.out.below (Below.refl _ _).drew).met (HHr.out.below (Below.refl _ _).drew) (md_ok HHr.out.ok hwl2 hul hdl))
            have HAL := hid (arcsOf_ok (D := hdOf n E order ranks edges) (e := k) hlt)
            have hAl : ((arcsOf (hdOf n E order ranks edges)).getD k []).length ≤ 4194304 := Nat.le_trans HAL.out.1 hEl
            have hDl : ((hdOf n E order ranks edges).down.getD ((hdOf n E order ranks edges).edges.getD k (0, 0)).1 []).length ≤ 1099511627776 := by
              have h1 := (HHr.out.ok.edge_lt k hlt).1
              have h2 : ((hdOf n E order ranks edges).down.getD ((hdOf n E order ranks edges).edges.getD k (0, 0)).1 []) = downOf edges (edges.getD k (0, 0)).1 := down_getD edges _ h1
              rw [h2]
              exact Nat.le_trans (downOf_len _ _) hedl
            have HC := hid (weights_any HMt.out k hlt hAl hDl (fun i => HP.out.rng i))
            clear hbm hwl2 hAl hDl hul hdl hnx
            go_wp2
            refine wp_region_mix (fun w' => w'.cell? ⟨m, 3, none⟩ = some (.slice (some ⟨gu, 0, none⟩) edges.length edges.length) ∧ w'.cell? ⟨m, 4, none⟩ = some (.slice (some ⟨gd, 0, none⟩) edges.length edges.length)) 19 [(0, true), (1, true), (2, true), (3, true), (4, true), (5, true), (6, true), (7, true), (8, true), (9, true), (10, true), (11, true), (12, false), (13, true), (14, true), (15, true), (16, true), (17, false), (18, true)] (by kernel_rfl) (by kernel_rfl) ⟨c3, c4'⟩ ?_
            iterate 12
              refine mix_take (v := ?_) rfl (by rfl) ?_ ?_
              rotate_left
              · (intro W hSW; (try dsimp only at hSW); go_split_ands; go_simp; try with_reducible rfl)
              simp only [Act.put, List.setIfInBounds_toArray, List.set_cons_zero, List.set_cons_succ]
            refine mix_callN (x := .func 76) (xs := #[.tmp 92, .tmp 93]) (ts := #[28, 3]) (d := some 94) (g := 76) (vs := #[.pointer (some ⟨m, 0, none⟩), .int .i64 (k : Int)]) (by kernel_rfl) (by kernel_rfl) (by kernel_rfl) EGW.out ?_
            refine (HC.out).mono ?_
            rintro en w6 ⟨u, d', rfl, hu, hd', hb6⟩
            have HM6 := hid ((HM2.out.below (Below.refl _ _).drew).below hb6)
            have HB6 := hid hb6
            have Hu := hid hu
            have Hd' := hid hd'
            refine ⟨_, rfl, ⟨cell_later hb6 c3, cell_later hb6 c4'⟩, ?_⟩
            simp only [Act.put, List.setIfInBounds_toArray, List.set_cons_zero, List.set_cons_succ]
            clear hu hd' hb6
            iterate 4
              refine mix_take (v := ?_) rfl (by rfl) ?_ ?_
              rotate_left
              · (intro W hSW; (try dsimp only at hSW); go_split_ands; go_simp; try with_reducible rfl)
              simp only [Act.put, List.setIfInBounds_toArray, List.set_cons_zero, List.set_cons_succ]
            have hub := HM6.out.ub
            have ku : w6.cell? ⟨gu, k, none⟩ = some (intv (us.getD k 0)) := by rw [blk_cell' hub]; simp [List.getD, HUL.out, hlt]
            have fu := blk_free hub k
            have lu := blk_lt' hub
            have HM7 := hid (HM6.out.setu k u)
            have hbm7 := HM7.out.blk
            rw [List.length_set, HUL.out, HDL.out] at hbm7
            have hdb := HM7.out.db
            have kd : (w6.setCell ⟨gu, k, none⟩ (.int .i64 u)).cell? ⟨gd, k, none⟩ = some (intv (ds.getD k 0)) := by rw [blk_cell' hdb]; simp [List.getD, HDL.out, hlt]
            have fd := blk_free hdb k
            have ld := blk_lt' hdb
            clear hub hdb
            refine mix_step rfl (fun K hK => ?_)
            go_simp
            refine hK.out _ _ ⟨blk_cell' hbm7 3, blk_cell' hbm7 4⟩ ?_
            clear hK K
            try simp only [Act.put, List.setIfInBounds_toArray, List.set_cons_zero, List.set_cons_succ]
            iterate 1
              refine mix_take (v := ?_) rfl (by rfl) ?_ ?_
              rotate_left
              · (intro W hSW; (try dsimp only at hSW); go_split_ands; go_simp; try with_reducible rfl)
              simp only [Act.put, List.setIfInBounds_toArray, List.set_cons_zero, List.set_cons_succ]
            refine mix_last rfl (fun K hK => ?_)
            go_simp
            refine hK.out _ _ (NoPanic.normal ?_)
            clear hK K
            have HM8 := hid (HM7.out.setd k d')
            have hnx8 : Below W8.heap.size W8 ((w6.setCell ⟨gu, k, none⟩ (.int .i64 u)).setCell ⟨gd, k, none⟩ (.int .i64 d')) := ((Hnx2.out.drew.trans (HB6.out.mono Hnx2.out.drew.size)).setCell HM2.out.base_le.2.2.1 _).setCell HM2.out.base_le.2.2.2 _
            have Hnx8 := hid hnx8
            clear hnx8 ku fu lu kd fd ld hbm7 c3 c4' lm
            go_wp2
            go_roundw
            case rel =>
              have hR : Cn2Rel W8 (hdOf n E order ranks edges) m h gw ga gu gd ws (.int .i64 ((k + 1 : Nat) : Int)) _ := ⟨k + 1, lab, _, _, hlt, rfl, HM8.out, HP.out.step Hg.out hlt Hu.out Hd'.out, Hnx8.out⟩
              first | exact hR | ((repeat apply Exists.intro); exact ⟨hR, rfl⟩)
            case measure => simp [intOf]; omega
          · have : k = edges.length := by omega
            subst this
            have hb := HB8.out.trans (hnx.mono HB8.out.size)
            have HBf := hid hb
            have HMt := hid (HM2.out.met (HH.out.below hb) (md_ok HH.out.ok HG'.out.w_len hul hdl))
            clear hul hdl hnx hb
            go_wp2
            go_ret2
            exact ⟨m, _, rfl, HMt.out, ⟨Hg.out, rfl, rfl, rfl, fun i hi => (HG'.out.w_ok i (by rw [HG'.out.w_len]; exact hi)).2, HP.out.least⟩, Nat.le_trans HB8.out.size HM2.out.base_le.1, HBf.out⟩

end Go.Proofs.Ytpfjannhggcmiaa
