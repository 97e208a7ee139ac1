/- Contract of Metric.weights. -/
import Derived.Test.YtpfjannhggcmiaaWt2
import Derived.Test.YtpfjannhggcmiaaMix
namespace Go.Proofs.Ytpfjannhggcmiaa
open Go.RowKit Go.Maps

/-- The two least weights are returned. -/
def RetWt (w : World) (M : MD) (e : Nat) (en : Ending) (w' : World) : Prop :=
  ∃ u d : Int, en = .returned (.tuple #[.int .i64 u, .int .i64 d]) ∧ Least (upC M e) u ∧ Least (downC M e) d ∧ Below w.heap.size w w'

theorem Least.min2 {P : Int → Prop} {c y : Int} (h : Least P c) (hy : 0 ≤ y) : Least (fun x => P x ∨ x = y) (Min.min c y) := by
  have := h.min hy
  have e : Min.min c y = if y < c then y else c := by rw [Int.min_def]; split <;> split <;> omega
  rw [e]
  exact this
/-- The second loop. -/
def W2Rel (W : World) (M : MD) (e : Nat) (u d i : Value) (wr : World) : Prop :=
  ∃ (k : Nat) (u' d' : Int), k ≤ (M.h.lower e).length ∧ i = .int .i64 k ∧ u = .int .i64 u' ∧ d = .int .i64 d' ∧ Least (fun x => arcUp M e (M.arcs.getD e []).length x ∨ triUp M e k x) u' ∧ Least (fun x => arcDown M e (M.arcs.getD e []).length x ∨ triDown M e k x) d' ∧ Below W.heap.size W wr
/-- The state of the loops: nothing changes but draws. -/
def W1Rel (W : World) (M : MD) (e : Nat) (u d i : Value) (wr : World) : Prop :=
  ∃ (k : Nat) (u' d' : Int), k ≤ (M.arcs.getD e []).length ∧ i = .int .i64 k ∧ u = .int .i64 u' ∧ d = .int .i64 d' ∧ Least (arcUp M e k) u' ∧ Least (arcDown M e k) d' ∧ Below W.heap.size W wr

set_option maxRecDepth 100000 in
set_option maxHeartbeats 8000000 in
theorem weights_any {w : World} {m h : Nat} {M : MD} (H : MetAt w m h M) (e : Nat) (he : e < M.h.edges.length) (hLb : (M.arcs.getD e []).length ≤ 4194304) (hLd : (M.h.down.getD (M.h.edges.getD e (0, 0)).1 []).length ≤ 1099511627776)
    (hR : ∀ i, (0 ≤ M.up.getD i 0 ∧ M.up.getD i 0 ≤ INF) ∧ (0 ≤ M.down.getD i 0 ∧ M.down.getD i 0 ≤ INF)) :
    Calls Try.prog 76 #[.pointer (some ⟨m, 0, none⟩), .int .i64 (e : Int)] w (RetWt w M e) := by
  have HM := hid H
  have lm := H.lt
  have c0 := H.c0
  have heb := H.ok.h_ok.edges_len
  have eg64 := fun args w => enter_of (Try.func64) (by kernel_rfl) rfl args w
  have eg73 := fun args w => enter_of (Try.func73) (by kernel_rfl) rfl args w
  have EG := hid (And.intro eg64 eg73)
  have EGF := hid (fun args w => enter_of (Try.func75) (by kernel_rfl) rfl args w)
  have EGO := hid (fun args w => enter_of (Try.func98) (by kernel_rfl) rfl args w)
  have HR := hid hR
  clear H eg64 eg73 hR
  go_enter Try.func76, Try.ntmps76
  go_wp2
  have c0' : w.drew.cell? ⟨m, 0, none⟩ = some (.pointer (some ⟨h, 0, none⟩)) := c0
  have HBd : Hid (Below w.heap.size w w.drew) := (Below.refl _ _).drew
  refine wp_region_eff (fun w' => w'.cell? ⟨m, 0, none⟩ = some (.pointer (some ⟨h, 0, none⟩))) 16 [0, 1, 2, 3, 5, 6, 7, 8, 10] [(4, some 21), (9, some 26), (11, some 28), (12, some 29), (13, some 6), (14, some 7), (15, none)] [] (fun i => if i = 11 then [9] else if i = 12 then [11] else if i = 15 then [13, 4] else []) (WtI w.drew M.h.n M.h.arcs M.h.edges e) (by kernel_rfl) (by unfold sepE; simp) (by kernel_rfl) c0' ?_
  iterate 9
    refine readsS_take (v := ?_) rfl (by rfl) ?_ ?_
    rotate_left
    · (intro W hSW; (try dsimp only at hSW); go_split_ands; go_simp; try with_reducible rfl)
    simp only [Act.put, List.setIfInBounds_toArray, List.set_cons_zero, List.set_cons_succ]
  refine readsS_nil ?_
  refine EffS_gen ?_
  intro a0 ha0
  have e20 : a0.eval (.tmp 20) = .pointer (some ⟨h, 0, none⟩) := by rw [ha0]; kernel_rfl
  have e25 : a0.eval (.tmp 25) = .pointer (some ⟨h, 0, none⟩) := by rw [ha0]; kernel_rfl
  have e27 : a0.eval (.tmp 27) = .int .i64 (e : Int) := by rw [ha0]; kernel_rfl
  have esz : 29 < a0.tmps.size := by rw [ha0]; simp
  refine ⟨?start, ?keep, ?step, ?fin⟩
  case start => exact ⟨Below.refl _ _, (fun h => by cases h), (fun h => by cases h), (fun h => by cases h), (fun h => by cases h), (fun h => by cases h), (fun h => by cases h), (fun h => by cases h), (fun h => by cases h)⟩
  case keep => intro done f w' hI; exact cell_later hI.bel c0'
  case step =>
    --F<
    intro i hnum done f w' hdone hdeps hI o ho
    simp only [numE, List.any_cons, List.any_nil, Bool.or_false, Bool.or_eq_true, beq_iff_eq] at hnum
    rcases hnum with rfl | rfl | rfl | rfl | rfl | rfl | rfl
    · obtain rfl := Option.some.inj ho
      refine does_call1 rfl rfl ((eval_other (by simp)).trans e20) EG.out.1 ?_
      refine (graph_own ((HM.out.hier.below HBd.out).below hI.bel)).mono ?_
      rintro e w3 ⟨v, rfl, hv, hb⟩
      exact ⟨_, rfl, hI.add4 hdone hb hv⟩
    · obtain rfl := Option.some.inj ho
      refine does_call1 rfl rfl ((eval_other (by simp)).trans e25) EG.out.2 ?_
      refine (edges_own ((HM.out.hier.below HBd.out).below hI.bel)).mono ?_
      rintro e w3 ⟨v, rfl, hv, hb⟩
      exact ⟨_, rfl, (hI.grow hb).add9 hdone (own_mono hv hI.bel.size)⟩
    · obtain rfl := Option.some.inj ho
      have h9 : done 9 = true := hdeps 9 (by simp)
      obtain ⟨g, c, h9f, _, _⟩ := (hI.i9 h9).form (by omega)
      have e26 : (actE [(4, some 21), (9, some 26), (11, some 28), (12, some 29), (13, some 6), (14, some 7), (15, none)] done f a0).eval (.tmp 26) = .slice (some ⟨g, 0, none⟩) M.h.edges.length c := (eval_done (by unfold sepE; simp) (by simp) h9 (by omega)).trans h9f
      have e27' : (actE [(4, some 21), (9, some 26), (11, some 28), (12, some 29), (13, some 6), (14, some 7), (15, none)] done f a0).eval (.tmp 27) = .int .i64 (e : Int) := (eval_other (by simp)).trans e27
      have hI2 := hI.add11 h9 h9f
      generalize (actE [(4, some 21), (9, some 26), (11, some 28), (12, some 29), (13, some 6), (14, some 7), (15, none)] done f a0).eval = ρ at e26 e27' ⊢
      have d1 : (0 : Int) ≤ (e : Int) := by omega
      have d2 : (e : Int) < (M.h.edges.length : Int) := by omega
      unfold OpDoes execOp
      simp [e26, e27', go_sem, he]
      exact hI2
    · obtain rfl := Option.some.inj ho
      have h11 : done 11 = true := hdeps 11 (by simp)
      obtain ⟨h9, g, c, h9f, h11f⟩ := hI.i11 h11
      have e28 : (actE [(4, some 21), (9, some 26), (11, some 28), (12, some 29), (13, some 6), (14, some 7), (15, none)] done f a0).eval (.tmp 28) = .pointer (some ⟨g, e * 2, none⟩) := (eval_done (by unfold sepE; simp) (by simp) h11 (by omega)).trans h11f
      obtain ⟨A, c', hA, _, _, hN⟩ := own_arcs (hI.i9 h9)
      rw [h9f] at hA
      obtain ⟨rfl, rfl⟩ : some (⟨g, 0, none⟩ : Addr) = A ∧ c = c' := by simpa using hA
      obtain ⟨b, o, hbo, _, cx, cy⟩ := hN.at_ he
      cases hbo
      rw [Nat.zero_add] at cx cy
      have hI2 := hI.add12 (v := .agg #[.int .i64 (((M.h.edges.getD e (0, 0)).1 : Nat) : Int), .int .i64 (((M.h.edges.getD e (0, 0)).2 : Nat) : Int)]) rfl
      generalize (actE [(4, some 21), (9, some 26), (11, some 28), (12, some 29), (13, some 6), (14, some 7), (15, none)] done f a0).eval = ρ at e28 ⊢
      obtain ⟨ex, hex⟩ : ∃ x, x = ((M.h.edges.getD e (0, 0)).1 : Nat) := ⟨_, rfl⟩
      obtain ⟨ey, hey⟩ : ∃ x, x = ((M.h.edges.getD e (0, 0)).2 : Nat) := ⟨_, rfl⟩
      rw [← hex] at cx
      rw [← hey] at cy
      rw [← hex, ← hey] at hI2
      unfold OpDoes execOp
      simp [e28, go_sem, cx, cy]
      exact hI2
    · obtain rfl := Option.some.inj ho
      have hI2 := hI.add13 hdone (.int .i64 0) (.slice none 0 0)
      unfold OpDoes execOp
      simp [go_sem]
      exact hI2
    · obtain rfl := Option.some.inj ho
      have hI2 := hI.add14 (.int .i64 0) (.int .i64 0)
      unfold OpDoes execOp
      simp [go_sem]
      exact hI2
    · obtain rfl := Option.some.inj ho
      have h13 : done 13 = true := hdeps 13 (by simp)
      have h4 : done 4 = true := hdeps 4 (by simp)
      obtain ⟨g, x, y, hf13, hg, hblk, _⟩ := hI.i13 h13
      obtain ⟨v, hf4, hv⟩ := hI.i4 h4
      obtain ⟨A4, c4, hv4, _, _, _⟩ := own_row hv
      subst hv4
      have e6 : (actE [(4, some 21), (9, some 26), (11, some 28), (12, some 29), (13, some 6), (14, some 7), (15, none)] done f a0).eval (.tmp 6) = .pointer (some ⟨g, 0, none⟩) := (eval_done (by unfold sepE; simp) (by simp) h13 (by omega)).trans hf13
      have e21 : (actE [(4, some 21), (9, some 26), (11, some 28), (12, some 29), (13, some 6), (14, some 7), (15, none)] done f a0).eval (.tmp 21) = .agg #[.int .i64 (M.h.n : Int), .slice A4 M.h.arcs.length c4] := (eval_done (by unfold sepE; simp) (by simp) h4 (by omega)).trans hf4
      have hI2 := hI.add15 h13 h4 hf13 hf4 undef
      have k0 := blk_cell' hblk 0
      have k1 := blk_cell' hblk 1
      have f0 := blk_free hblk 0
      have f1 := blk_free hblk 1
      simp at k0 k1
      generalize (actE [(4, some 21), (9, some 26), (11, some 28), (12, some 29), (13, some 6), (14, some 7), (15, none)] done f a0).eval = ρ at e6 e21 ⊢
      unfold OpDoes execOp
      simp [e6, e21, go_sem, k0, k1, f0, f1]
      exact hI2
    --F>
  case fin =>
    intro done f w' hall hI
    obtain ⟨v, hf4, hv⟩ := hI.i4 (hall (4, some 21) (by simp))
    obtain ⟨A4, c4, rfl, hc4, _, hN4⟩ := own_arcs hv
    obtain ⟨_, g9, c9, hf9, hf11⟩ := hI.i11 (hall (11, some 28) (by simp))
    have hf12 := hI.i12 (hall (12, some 29) (by simp))
    obtain ⟨g13, x, y, hf13, hg13, hb13, hxy⟩ := hI.i13 (hall (13, some 6) (by simp))
    have hxy' := hxy (hall (15, none) (by simp))
    rw [hf4] at hxy'
    obtain ⟨rfl, rfl⟩ : Value.int .i64 (M.h.n : Int) = x ∧ Value.slice A4 M.h.arcs.length c4 = y := by simpa using hxy'
    obtain ⟨g14, x2, y2, hf14, hg14, hb14⟩ := hI.i14 (hall (14, some 7) (by simp))
    have hne := hI.ne (hall (4, some 21) (by simp)) (hall (14, some 7) (by simp)) _ _ hf4 hf14
    obtain ⟨eu, heu⟩ : ∃ x, x = (M.h.edges.getD e (0, 0)).1 := ⟨_, rfl⟩
    obtain ⟨ev, hev⟩ : ∃ x, x = (M.h.edges.getD e (0, 0)).2 := ⟨_, rfl⟩
    rw [← heu, ← hev] at hf12
    have Heu := hid heu
    have Hev := hid hev
    clear heu hev
    rw [ha0]
    unfold putAll
    simp only [List.foldl_cons, List.foldl_nil, Act.put, List.setIfInBounds_toArray, List.set_cons_zero, List.set_cons_succ, hf4, hf9, hf11, hf12, hf13, hf14]
    have k0 := blk_cell' hb14 0
    have k1 := blk_cell' hb14 1
    have f0 := blk_free hb14 0
    have f1 := blk_free hb14 1
    simp at k0 k1
    refine chainS_last rfl (fun K hK => ?_)
    go_simp
    refine hK.out _ _ (NoPanic.normal ?_)
    clear hK K
    have hbW : Below w.heap.size w ((w'.setCell ⟨g14, 0, none⟩ (.int .i64 (eu : Int))).setCell ⟨g14, 1, none⟩ (.int .i64 (ev : Int))) := ((HBd.out.trans (hI.bel.mono HBd.out.size)).setCell (Nat.le_trans HBd.out.size hg14) _).setCell (Nat.le_trans HBd.out.size hg14) _
    have hN4' : Arcs ((w'.setCell ⟨g14, 0, none⟩ (.int .i64 (eu : Int))).setCell ⟨g14, 1, none⟩ (.int .i64 (ev : Int))) A4 M.h.arcs := by
      have hn : ∀ ad, A4 = some ad → ad.block ≠ g14 := fun ad e1 e2 => hne (by rw [e1]; simp [Value.ownBlock, e2])
      exact (hN4.far hn _).far hn _
    have hb13' : ((w'.setCell ⟨g14, 0, none⟩ (.int .i64 (eu : Int))).setCell ⟨g14, 1, none⟩ (.int .i64 (ev : Int))).heap[g13]? = some (.cells #[.int .i64 (M.h.n : Int), .slice A4 M.h.arcs.length c4] 24 (0, 0)) :=
      blk_far' (blk_far' hb13 (cells_ne hb13 hb14 (by decide)) _) (cells_ne hb13 hb14 (by decide)) _
    have hb14' : ((w'.setCell ⟨g14, 0, none⟩ (.int .i64 (eu : Int))).setCell ⟨g14, 1, none⟩ (.int .i64 (ev : Int))).heap[g14]? = some (.cells #[.int .i64 (eu : Int), .int .i64 (ev : Int)] 48 (0, 0)) := by
      have := blk_set' (blk_set' hb14 0 (.int .i64 (eu : Int))) 1 (.int .i64 (ev : Int))
      simpa using this
    obtain ⟨W, hW⟩ : ∃ W, W = ((w'.setCell ⟨g14, 0, none⟩ (.int .i64 (eu : Int))).setCell ⟨g14, 1, none⟩ (.int .i64 (ev : Int))) := ⟨_, rfl⟩
    rw [← hW] at hbW hN4' hb13' hb14' ⊢
    clear hW
    have HMW := hid (HM.out.below hbW)
    have HbW := hid hbW
    have Hb13 := hid hb13'
    have Hb14 := hid hb14'
    have HN4 := hid hN4'
    clear hbW hb13' hb14' hN4' hne hb14 hb13 hxy hxy' hN4 hc4 hf4 hf9 hf11 hf12 hf13 hf14 k0 k1 f0 f1 hI hv e20 e25 e27 esz ha0 c0' c0
    obtain ⟨Aa, ca, ca2, hca, hLa⟩ := HMW.out.arcs
    obtain ⟨ba, oa, AL, cL, rfl, hba, cLe, hcL, hNL⟩ := hLa.at_ (k := e) (by rw [HMW.out.ok.arcs_len]; exact he)
    have hea : e < M.arcs.length := by rw [HMW.out.ok.arcs_len]; exact he
    have hma : M.arcs.length ≤ 1099511627776 := by rw [HMW.out.ok.arcs_len]; exact heb
    obtain ⟨L, hL⟩ : ∃ L, L = M.arcs.getD e [] := ⟨_, rfl⟩
    rw [← hL] at cLe hcL hNL hLb
    have HL := hid hL
    have HNL := hid hNL
    have lmW := HMW.out.lt
    clear hLa hNL hL
    go_wp2
    go_loopw [4, 5, 38] (fun u d i wr => W1Rel W M e u d i wr) (fun _ _ i _ => L.length - (intOf i).toNat)
    case atStart => exact ⟨0, INF, INF, Nat.zero_le _, rfl, rfl, rfl, Least.zero.congr (fun x => by unfold arcUp; simp), Least.zero.congr (fun x => by unfold arcDown; simp), Below.refl _ _⟩
    case round =>
      obtain ⟨k, u1, d1, hk, rfl, rfl, rfl, hu1, hd1, hnx⟩ := hrel
      have Hu1 := hid hu1
      have Hd1 := hid hd1
      have Hnx := hid hnx
      rw [← HL.out] at hk
      obtain ⟨ru1, ru2, _, _⟩ := hu1
      obtain ⟨rd1, rd2, _, _⟩ := hd1
      unfold INF at ru2 rd2
      by_cases hlt : k < L.length
      · obtain ⟨b, o, rfl, hb, cx⟩ := HNL.out.at_ hlt
        obtain ⟨ai, hai⟩ : ∃ x, L.getD k 0 = x := ⟨_, rfl⟩
        have hai2 : (M.arcs.getD e []).getD k 0 = ai := by rw [← HL.out]; exact hai
        have hail : ai < M.h.arcs.length := by rw [← hai2]; exact HMW.out.ok.arc_lt e he k (by rw [← HL.out]; exact hlt)
        obtain ⟨Aw, cw, cw1, hcw, hIw⟩ := HMW.out.ws
        have hwl : M.w.length = M.h.arcs.length := HMW.out.ok.w_len
        have hwl2 : ai < M.w.length := by rw [hwl]; exact hail
        obtain ⟨bw, ow, rfl, hbw, cwi⟩ := hIw.at_ hwl2
        obtain ⟨b4, o4, rfl, hb4, cax, _⟩ := HN4.out.at_ hail
        obtain ⟨wi, hwi⟩ : ∃ x, M.w.getD ai 0 = x := ⟨_, rfl⟩
        obtain ⟨ax, hax⟩ : ∃ x, (M.h.arcs.getD ai (0, 0)).1 = x := ⟨_, rfl⟩
        rw [hai] at cx
        rw [hwi] at cwi
        rw [hax] at cax
        have c131 : W.cell? ⟨g13, 1, none⟩ = some (.slice (some ⟨b4, o4, none⟩) M.h.arcs.length c4) := blk_cell' Hb13.out 1
        have c140 : W.cell? ⟨g14, 0, none⟩ = some (.int .i64 (eu : Int)) := blk_cell' Hb14.out 0
        replace cx := cell_later hnx cx
        replace cwi := cell_later hnx cwi
        replace cax := cell_later hnx cax
        replace cw1 := cell_later hnx cw1
        replace c131 := cell_later hnx c131
        replace c140 := cell_later hnx c140
        have Hai2 := hid hai2
        have Hwi := hid hwi
        have Hax := hid hax
        have hs := hnx.size
        have l1 : m < wr.heap.size := Nat.lt_of_lt_of_le lmW hs
        have l2 : b < wr.heap.size := Nat.lt_of_lt_of_le hb hs
        have l3 : bw < wr.heap.size := Nat.lt_of_lt_of_le hbw hs
        have l4 : b4 < wr.heap.size := Nat.lt_of_lt_of_le hb4 hs
        have hal : M.h.arcs.length ≤ 4194304 := HMW.out.ok.h_ok.arcs_len
        have stepU : Hid (∀ x, arcUp M e (k + 1) x ↔ arcUp M e k x ∨ (0 ≤ wi ∧ ax = eu ∧ x = wi)) := fun x => by
          unfold arcUp
          rw [exists_lt_succ, Hai2.out, Hwi.out, Hax.out, ← Heu.out]
        have stepD : Hid (∀ x, arcDown M e (k + 1) x ↔ arcDown M e k x ∨ (0 ≤ wi ∧ ax ≠ eu ∧ x = wi)) := fun x => by
          unfold arcDown
          rw [exists_lt_succ, Hai2.out, Hwi.out, Hax.out, ← Heu.out]
        clear hai hai2 hwi hax hnx hIw
        --F<
        by_cases hw0 : wi < 0
        · have g1 : decide (wi < 0) = true := decide_eq_true hw0
          go_wp2
          go_roundw
          case rel =>
            have hR : W1Rel W M e (.int .i64 u1) (.int .i64 d1) (.int .i64 ((k + 1 : Nat) : Int)) wr :=
              ⟨k + 1, u1, d1, by rw [← HL.out]; omega, rfl, rfl, rfl, Hu1.out.congr (fun x => by rw [stepU.out x]; exact ⟨.inl, fun h => h.elim id (fun h => by omega)⟩), Hd1.out.congr (fun x => by rw [stepD.out x]; exact ⟨.inl, fun h => h.elim id (fun h => by omega)⟩), Hnx.out⟩
            first | exact hR | ((repeat apply Exists.intro); exact ⟨hR, rfl⟩)
          case measure => simp [intOf]; omega
        · have g1 : decide (wi < 0) = false := decide_eq_false hw0
          have hw1 : 0 ≤ wi := by omega
          by_cases hxe : ax = eu
          · have q1 : ((ax : Int) == (eu : Int)) = true := by simp [hxe]
            have q2 : (ax == eu) = true := by simp [hxe]
            have hU := hid ((Hu1.out.min2 hw1).congr (Q := arcUp M e (k + 1)) (fun x => by rw [stepU.out x]; exact ⟨fun h => h.elim .inl (fun h => .inr ⟨hw1, hxe, h⟩), fun h => h.elim .inl (fun h => .inr h.2.2)⟩))
            have hD := hid (Hd1.out.congr (Q := arcDown M e (k + 1)) (fun x => by rw [stepD.out x]; exact ⟨.inl, fun h => h.elim id (fun h => absurd hxe h.2.1)⟩))
            clear stepU stepD
            subst hxe
            go_wp2
            go_quiet (fail)
            go_wp2
            go_roundw
            case rel =>
              have hR : W1Rel W M e (.int .i64 (Min.min u1 wi)) (.int .i64 d1) (.int .i64 ((k + 1 : Nat) : Int)) (wr.drewN nq) :=
                ⟨k + 1, _, _, by rw [← HL.out]; omega, rfl, rfl, rfl, hU.out, hD.out, below_drewN' Hnx.out _⟩
              first | exact hR | ((repeat apply Exists.intro); exact ⟨hR, rfl⟩)
            case measure => simp [intOf]; omega
          · have q1 : ((ax : Int) == (eu : Int)) = false := by simp; omega
            have q2 : (ax == eu) = false := by simp [hxe]
            have hU := hid (Hu1.out.congr (Q := arcUp M e (k + 1)) (fun x => by rw [stepU.out x]; exact ⟨.inl, fun h => h.elim id (fun h => absurd h.2.1 hxe)⟩))
            have hD := hid ((Hd1.out.min2 hw1).congr (Q := arcDown M e (k + 1)) (fun x => by rw [stepD.out x]; exact ⟨fun h => h.elim .inl (fun h => .inr ⟨hw1, hxe, h⟩), fun h => h.elim .inl (fun h => .inr h.2.2)⟩))
            have q3 : ¬ (ax : Int) = (eu : Int) := by omega
            clear stepU stepD
            go_wp2
            go_quiet (fail)
            go_wp2
            go_roundw
            case rel =>
              have hR : W1Rel W M e (.int .i64 u1) (.int .i64 (Min.min d1 wi)) (.int .i64 ((k + 1 : Nat) : Int)) (wr.drewN nq) :=
                ⟨k + 1, _, _, by rw [← HL.out]; omega, rfl, rfl, rfl, hU.out, hD.out, below_drewN' Hnx.out _⟩
              first | exact hR | ((repeat apply Exists.intro); exact ⟨hR, rfl⟩)
            case measure => simp [intOf]; omega
        --F>
      · have : k = L.length := by omega
        subst this
        have HMr := hid (HMW.out.below hnx)
        have lmr := HMr.out.lt
        have c0r := HMr.out.c0
        clear hnx
        go_wp2_with fail
        refine (lower_any e HMr.out.hier he hLd).mono ?_
        rintro en w5 ⟨Al, cl, rfl, hcl, hfl, hNl, hb5⟩
        have HM5 := hid (HMr.out.below hb5)
        have Hb5 := hid (Hnx.out.trans (hb5.mono Hnx.out.size))
        have HNl := hid hNl
        rw [HL.out] at Hu1 Hd1
        clear hNl hb5 hfl c0r lmr HMr
        go_wp2
        rw [← HL.out] at Hu1 Hd1
        go_loopw [4, 5, 87] (fun u d i wr => W2Rel w5 M e u d i wr) (fun _ _ i _ => (M.h.lower e).length - (intOf i).toNat)
        case atStart => exact ⟨0, u1, d1, Nat.zero_le _, rfl, rfl, rfl, (by rw [← HL.out]; exact Hu1.out.congr (fun x => by unfold triUp; simp)), (by rw [← HL.out]; exact Hd1.out.congr (fun x => by unfold triDown; simp)), Below.refl _ _⟩
        case round =>
          obtain ⟨k, u2, d2, hk, rfl, rfl, rfl, hu2, hd2, hnx2⟩ := hrel
          have Hu2 := hid hu2
          have Hd2 := hid hd2
          have Hnx2 := hid hnx2
          obtain ⟨ru1, ru2, _, _⟩ := hu2
          obtain ⟨rd1, rd2, _, _⟩ := hd2
          unfold INF at ru2 rd2
          have hWr : Below W.heap.size W wr := Hb5.out.trans (hnx2.mono Hb5.out.size)
          have HMq := hid (HMW.out.below hWr)
          by_cases hlt : k < (M.h.lower e).length
          · obtain ⟨b, o, rfl, hb, cx⟩ := HNl.out.at_ hlt
            obtain ⟨xl, hxl0⟩ : ∃ x, (M.h.lower e).getD k 0 = x := ⟨_, rfl⟩
            rw [hxl0] at cx
            replace cx := cell_later hnx2 cx
            have lb : b < wr.heap.size := Nat.lt_of_lt_of_le hb hnx2.size
            have hxm : xl ∈ M.h.lower e := by rw [← hxl0]; exact mem_getD hlt
            have hun : eu < M.h.n := by rw [Heu.out]; exact (HMW.out.ok.h_ok.edge_lt e he).1
            have hvn : ev < M.h.n := by rw [Hev.out]; exact (HMW.out.ok.h_ok.edge_lt e he).2
            have hxl : xl < M.h.n := by
              unfold HD.lower at hxm
              have h1 := (List.mem_filter.1 hxm).1
              rw [← Heu.out] at h1
              obtain ⟨j, hj, hje⟩ := List.getElem_of_mem h1
              have := HMW.out.ok.h_ok.down_lt eu hun j hj
              have e9 : (M.h.down.getD eu []).getD j 0 = xl := by rw [List.getD_eq_getElem?_getD, List.getElem?_eq_getElem hj, hje]; rfl
              rw [e9] at this
              exact this
            have Hxl0 := hid hxl0
            have Hb13r := hid (blk_below Hb13.out hWr)
            have Hb14r := hid (blk_below Hb14.out hWr)
            have cm1 := HMq.out.c0
            have lmq := HMq.out.lt
            have cb1 : wr.cell? ⟨g14, 0, none⟩ = some (.int .i64 (eu : Int)) := blk_cell' Hb14r.out 0
            have lg14 := blk_lt' Hb14r.out
            have cb2 : wr.cell? ⟨g14, 1, none⟩ = some (.int .i64 (ev : Int)) := blk_cell' Hb14r.out 1
            obtain ⟨ea, hea0⟩ : ∃ x, (M.h.find xl eu).getD 0 = x := ⟨_, rfl⟩
            obtain ⟨eb, heb0⟩ : ∃ x, (M.h.find xl ev).getD 0 = x := ⟨_, rfl⟩
            have heal : ea < M.h.edges.length := by rw [← hea0]; exact find_lt HMW.out.ok.h_ok _ _ (by omega)
            have hebl : eb < M.h.edges.length := by rw [← heb0]; exact find_lt HMW.out.ok.h_ok _ _ (by omega)
            have HEA := hid hea0
            have HEB := hid heb0
            have Hxl := hid hxl
            have Hun := hid hun
            have Hvn := hid hvn
            have hll : (M.h.lower e).length ≤ 1099511627776 := Nat.le_trans (List.length_filter_le _ _) hLd
            clear hxl0 hxm hnx2 hWr hea0 heb0
            go_wp2
            refine wp_region_mix (fun w' => Below wr.drew.heap.size wr.drew w' ∧ w'.cell? ⟨m, 0, none⟩ = some (.pointer (some ⟨h, 0, none⟩)) ∧ w'.cell? ⟨g14, 0, none⟩ = some (.int .i64 (eu : Int))) 12 [(0, true), (1, true), (2, true), (3, true), (4, true), (5, true), (6, true), (7, false), (8, true), (9, true), (10, true), (11, true)] (by kernel_rfl) (by kernel_rfl) ⟨Below.refl _ _, cm1, cb1⟩ ?_
            iterate 7
              refine mix_take (v := ?_) rfl (by rfl) ?_ ?_
              rotate_left
              · (intro W hSW; (try dsimp only at hSW); go_split_ands; go_simp; try with_reducible rfl)
              simp only [Act.put, List.setIfInBounds_toArray, List.set_cons_zero, List.set_cons_succ]
            refine mix_callN (x := .func 75) (xs := #[.tmp 95, .tmp 96, .tmp 98]) (ts := #[80, 3, 3]) (d := some 99) (g := 75) (vs := #[.pointer (some ⟨h, 0, none⟩), .int .i64 (xl : Int), .int .i64 (eu : Int)]) (by kernel_rfl) (by kernel_rfl) (by kernel_rfl) EGF.out ?_
            refine (find_any xl eu (HMq.out.hier.below (Below.refl _ _).drew) Hxl.out Hun.out).mono ?_
            rintro en w6 ⟨rfl, hb6⟩
            refine ⟨_, rfl, ⟨hb6, cell_later hb6 cm1, cell_later hb6 cb1⟩, ?_⟩
            simp only [Act.put, List.setIfInBounds_toArray, List.set_cons_zero, List.set_cons_succ]
            iterate 4
              refine mix_take (v := ?_) rfl (by rfl) ?_ ?_
              rotate_left
              · (intro W hSW; (try dsimp only at hSW); go_split_ands; go_simp; try with_reducible rfl)
              simp only [Act.put, List.setIfInBounds_toArray, List.set_cons_zero, List.set_cons_succ]
            refine mix_last rfl (fun K hK => ?_)
            go_simp
            refine hK.out _ _ (NoPanic.normal ?_)
            clear hK K
            rw [HEA.out]
            obtain ⟨fb, hfb⟩ : ∃ x, (M.h.find xl eu).isSome = x := ⟨_, rfl⟩
            rw [hfb]
            have hB6 : Below wr.heap.size wr w6 := ((Below.refl wr.heap.size wr).drew).trans hb6
            have HB6 := hid hB6
            have HM6 := hid (HMq.out.below hB6)
            have cm2 := cell_later hB6 cm1
            have cb3 := cell_later hB6 cb2
            have lm6 := HM6.out.lt
            have lg6 := blk_lt' (blk_below Hb14r.out hB6)
            clear hb6 hB6 cm1 cb1 cb2 hfb
            go_wp2
            refine wp_region_mix (fun w' => Below w6.drew.heap.size w6.drew w' ∧ w'.cell? ⟨m, 0, none⟩ = some (.pointer (some ⟨h, 0, none⟩)) ∧ w'.cell? ⟨g14, 1, none⟩ = some (.int .i64 (ev : Int))) 12 [(0, true), (1, true), (2, true), (3, true), (4, true), (5, true), (6, true), (7, false), (8, true), (9, true), (10, true), (11, true)] (by kernel_rfl) (by kernel_rfl) ⟨Below.refl _ _, cm2, cb3⟩ ?_
            iterate 7
              refine mix_take (v := ?_) rfl (by rfl) ?_ ?_
              rotate_left
              · (intro W hSW; (try dsimp only at hSW); go_split_ands; go_simp; try with_reducible rfl)
              simp only [Act.put, List.setIfInBounds_toArray, List.set_cons_zero, List.set_cons_succ]
            refine mix_callN (x := .func 75) (xs := #[.tmp 106, .tmp 107, .tmp 109]) (ts := #[80, 3, 3]) (d := some 110) (g := 75) (vs := #[.pointer (some ⟨h, 0, none⟩), .int .i64 (xl : Int), .int .i64 (ev : Int)]) (by kernel_rfl) (by kernel_rfl) (by kernel_rfl) EGF.out ?_
            refine (find_any xl ev (HM6.out.hier.below (Below.refl _ _).drew) Hxl.out Hvn.out).mono ?_
            rintro en w7 ⟨rfl, hb7⟩
            refine ⟨_, rfl, ⟨hb7, cell_later hb7 cm2, cell_later hb7 cb3⟩, ?_⟩
            simp only [Act.put, List.setIfInBounds_toArray, List.set_cons_zero, List.set_cons_succ]
            iterate 4
              refine mix_take (v := ?_) rfl (by rfl) ?_ ?_
              rotate_left
              · (intro W hSW; (try dsimp only at hSW); go_split_ands; go_simp; try with_reducible rfl)
              simp only [Act.put, List.setIfInBounds_toArray, List.set_cons_zero, List.set_cons_succ]
            refine mix_last rfl (fun K hK => ?_)
            go_simp
            refine hK.out _ _ (NoPanic.normal ?_)
            clear hK K
            rw [HEB.out]
            obtain ⟨fc, hfc⟩ : ∃ x, (M.h.find xl ev).isSome = x := ⟨_, rfl⟩
            rw [hfc]
            have hB7 : Below w6.heap.size w6 w7 := ((Below.refl w6.heap.size w6).drew).trans hb7
            have HB7 := hid hB7
            have HM7 := hid (HM6.out.below hB7)
            clear hb7 hB7 cm2 cb3 hfc
            obtain ⟨Au, cu, cu3, hcu, hIu⟩ := HM7.out.up
            obtain ⟨Ad, cd, cd4, hcd, hId⟩ := HM7.out.down
            have hul : M.up.length = M.h.edges.length := HMW.out.ok.up_len
            have hdl : M.down.length = M.h.edges.length := HMW.out.ok.down_len
            rw [hul] at cu3 hcu
            rw [hdl] at cd4 hcd
            obtain ⟨bu, ou, rfl, hbu, cua⟩ := hIu.at_ (k := ea) (by omega)
            obtain ⟨bu', ou', hbue, _, cub⟩ := hIu.at_ (k := eb) (by omega)
            cases hbue
            obtain ⟨bd, od, rfl, hbd, cda⟩ := hId.at_ (k := ea) (by omega)
            obtain ⟨bd', od', hbde, _, cdb⟩ := hId.at_ (k := eb) (by omega)
            cases hbde
            have ru_a := (HR.out ea).1
            have ru_b := (HR.out eb).1
            have rd_a := (HR.out ea).2
            have rd_b := (HR.out eb).2
            obtain ⟨ua, hua⟩ : ∃ x, M.up.getD ea 0 = x := ⟨_, rfl⟩
            obtain ⟨ub, hub⟩ : ∃ x, M.up.getD eb 0 = x := ⟨_, rfl⟩
            obtain ⟨da, hda⟩ : ∃ x, M.down.getD ea 0 = x := ⟨_, rfl⟩
            obtain ⟨db, hdb⟩ : ∃ x, M.down.getD eb 0 = x := ⟨_, rfl⟩
            rw [hua] at cua ru_a
            rw [hub] at cub ru_b
            rw [hda] at cda rd_a
            rw [hdb] at cdb rd_b
            have HUA := hid hua
            have HUB := hid hub
            have HDA := hid hda
            have HDB := hid hdb
            have HOU := hid (over_rng rd_a.1 ru_b.1)
            have HOD := hid (over_rng rd_b.1 ru_a.1)
            have OV1 := hid (fun W => over_any da ub rd_a.1 ru_b.1 rd_a.2 ru_b.2 W)
            have OV2 := hid (fun W => over_any db ua rd_b.1 ru_a.1 rd_b.2 ru_a.2 W)
            have lm7 := HM7.out.lt
            clear hua hub hda hdb hul hdl hIu hId ru_a ru_b rd_a rd_b
            go_wp2
            refine wp_region_mix (fun w' => w'.cell? ⟨m, 4, none⟩ = some (.slice (some ⟨bd, od, none⟩) M.h.edges.length cd) ∧ w'.cell? ⟨m, 3, none⟩ = some (.slice (some ⟨bu, ou, none⟩) M.h.edges.length cu) ∧ w'.cell? ⟨bd, od + ea, none⟩ = some (.int .i64 da) ∧ w'.cell? ⟨bu, ou + eb, none⟩ = some (.int .i64 ub)) 18 [(0, true), (1, true), (2, true), (3, true), (4, true), (5, true), (6, true), (7, true), (8, true), (9, true), (10, true), (11, true), (12, true), (13, true), (14, true), (15, true), (16, false), (17, true)] (by kernel_rfl) (by kernel_rfl) ⟨cd4, cu3, cda, cub⟩ ?_
            iterate 16
              refine mix_take (v := ?_) rfl (by rfl) ?_ ?_
              rotate_left
              · (intro W hSW; (try dsimp only at hSW); go_split_ands; go_simp; try with_reducible rfl)
              simp only [Act.put, List.setIfInBounds_toArray, List.set_cons_zero, List.set_cons_succ]
            refine mix_callN (x := .tmp 114) (xs := #[.tmp 121, .tmp 128]) (ts := #[3, 3]) (d := some 129) (g := 98) (vs := #[.int .i64 da, .int .i64 ub]) (by kernel_rfl) (by kernel_rfl) (by kernel_rfl) EGO.out ?_
            refine (OV1.out _).mono ?_
            rintro en w8 ⟨rfl, rfl⟩
            refine ⟨_, rfl, ⟨cd4, cu3, cda, cub⟩, ?_⟩
            simp only [Act.put, List.setIfInBounds_toArray, List.set_cons_zero, List.set_cons_succ]
            iterate 1
              refine mix_take (v := ?_) rfl (by rfl) ?_ ?_
              rotate_left
              · (intro W hSW; (try dsimp only at hSW); go_split_ands; go_simp; try with_reducible rfl)
              simp only [Act.put, List.setIfInBounds_toArray, List.set_cons_zero, List.set_cons_succ]
            refine mix_last rfl (fun K hK => ?_)
            go_simp
            refine hK.out _ _ (NoPanic.normal ?_)
            clear hK K
            go_wp2
            refine wp_region_mix (fun w' => w'.cell? ⟨m, 4, none⟩ = some (.slice (some ⟨bd, od, none⟩) M.h.edges.length cd) ∧ w'.cell? ⟨m, 3, none⟩ = some (.slice (some ⟨bu, ou, none⟩) M.h.edges.length cu) ∧ w'.cell? ⟨bd, od + eb, none⟩ = some (.int .i64 db) ∧ w'.cell? ⟨bu, ou + ea, none⟩ = some (.int .i64 ua)) 18 [(0, true), (1, true), (2, true), (3, true), (4, true), (5, true), (6, true), (7, true), (8, true), (9, true), (10, true), (11, true), (12, true), (13, true), (14, true), (15, true), (16, false), (17, true)] (by kernel_rfl) (by kernel_rfl) ⟨cd4, cu3, cdb, cua⟩ ?_
            iterate 16
              refine mix_take (v := ?_) rfl (by rfl) ?_ ?_
              rotate_left
              · (intro W hSW; (try dsimp only at hSW); go_split_ands; go_simp; try with_reducible rfl)
              simp only [Act.put, List.setIfInBounds_toArray, List.set_cons_zero, List.set_cons_succ]
            refine mix_callN (x := .tmp 132) (xs := #[.tmp 139, .tmp 146]) (ts := #[3, 3]) (d := some 147) (g := 98) (vs := #[.int .i64 db, .int .i64 ua]) (by kernel_rfl) (by kernel_rfl) (by kernel_rfl) EGO.out ?_
            refine (OV2.out _).mono ?_
            rintro en w9 ⟨rfl, rfl⟩
            refine ⟨_, rfl, ⟨cd4, cu3, cdb, cua⟩, ?_⟩
            simp only [Act.put, List.setIfInBounds_toArray, List.set_cons_zero, List.set_cons_succ]
            iterate 1
              refine mix_take (v := ?_) rfl (by rfl) ?_ ?_
              rotate_left
              · (intro W hSW; (try dsimp only at hSW); go_split_ands; go_simp; try with_reducible rfl)
              simp only [Act.put, List.setIfInBounds_toArray, List.set_cons_zero, List.set_cons_succ]
            refine mix_last rfl (fun K hK => ?_)
            go_simp
            refine hK.out _ _ (NoPanic.normal ?_)
            clear hK K
            go_wp2
            go_roundw
            case rel =>
              have hR : W2Rel w5 M e (.int .i64 (Min.min u2 (over da ub))) (.int .i64 (Min.min d2 (over db ua))) (.int .i64 ((k + 1 : Nat) : Int)) w7.drew.drew :=
                ⟨k + 1, _, _, by omega, rfl, rfl, rfl, (Hu2.out.min2 HOU.out).congr (fun x => by
                  unfold triUp edA edB
                  rw [exists_lt_succ, Hxl0.out, ← Heu.out, ← Hev.out, HEA.out, HEB.out, HDA.out, HUB.out, or_assoc]), (Hd2.out.min2 HOD.out).congr (fun x => by
                  unfold triDown edA edB
                  rw [exists_lt_succ, Hxl0.out, ← Heu.out, ← Hev.out, HEA.out, HEB.out, HDB.out, HUA.out, or_assoc]), (((Hnx2.out.trans (HB6.out.mono Hnx2.out.size)).trans (HB7.out.mono (Nat.le_trans Hnx2.out.size HB6.out.size))).drew).drew⟩
              first | exact hR | ((repeat apply Exists.intro); exact ⟨hR, rfl⟩)
            case measure => simp [intOf]; omega
          · have : k = (M.h.lower e).length := by omega
            subst this
            clear hnx2 hWr
            go_wp2
            go_ret2
            exact ⟨_, _, rfl, Hu2.out, Hd2.out, HbW.out.trans ((Hb5.out.trans (Hnx2.out.mono Hb5.out.size)).mono HbW.out.size)⟩

end Go.Proofs.Ytpfjannhggcmiaa
