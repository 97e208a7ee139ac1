/- Contract of the reference's distances: all arcs are relaxed till nothing changes; what comes out are the shortest distances. -/
import Derived.Test.YtpfjannhggcmiaaRef1
import Derived.Test.YtpfjannhggcmiaaDist
import Derived.StillTailTactics
import Derived.Deep.LoopGhost
import Derived.Deep.AppendLies
namespace Go.Proofs.Ytpfjannhggcmiaa
open Go.RowKit Go.Maps

/-- A valid graph with weights. -/
structure GraphOk (n : Nat) (E : List (Nat × Nat)) (ws : List Int) : Prop where
  n_le : n ≤ 28
  e_le : E.length ≤ 4194304
  ends : EndsOk n E
  w_len : ws.length = E.length
  w_ok : WOk ws
theorem GraphOk.arcs {n : Nat} {E : List (Nat × Nat)} {ws : List Int} (h : GraphOk n E ws) : ArcsOk n (toI E) := by
  intro i hi
  rw [toI_length] at hi
  have := h.ends i hi
  unfold ArcOk
  rw [toI_getD]
  simp only
  omega

/-- A region that draws its order: reads first, then one write; the world behind the draw under a name. -/
theorem still_tail {id : Nat} {Q : Exit → Act → World → Prop} {a : Act} {w : World} {l : List Oper} (n : Nat) (hm : Try.prog.follows .mixedOrders = true) (hB : Region.lexTailB .any l.toArray n = true)
    (h : ∀ W : World, Hid (W = w.drew) → wpStill Try.prog l.toArray W (fun a' => wpList Try.prog l.toArray Q (l.drop n) a' W) (l.take n) a) : (Code.region id l.toArray true).wp Try.prog Q a w :=
  wp_region_still_tail n hm hB (h _ rfl)
/-- The distances are returned, and no error. -/
def RetDist (w : World) (P : List Int → Prop) (en : Ending) (w' : World) : Prop :=
  ∃ d A c, en = .returned (.tuple #[.slice A d.length c, .int .i64 0]) ∧ P d ∧ d.length ≤ c ∧ Fresh w.heap.size A ∧ Ints w' A d ∧ Below w.heap.size w w'

theorem own_lt2 {w : World} {base n cap size : Nat} {e : TypeId} {xs : List Value} {A : Addr} (h : w.ownsRow base e size (.slice (some A) n cap) n xs) : A.block < w.heap.size ∧ base ≤ A.block := by
  have := h.lt A.block rfl
  omega
def F1Rel (w : World) (n : Nat) (cs : Array Value) (dv i : Value) (wr : World) : Prop :=
  ∃ k : Nat, k ≤ n ∧ i = .int .i64 k ∧ wr.ownsRow w.heap.size 3 1 dv k ((List.replicate k (1152921504606846976 : Int)).map intv) ∧ wr.heap[w.heap.size]? = some (.cells cs 24 (0, 0)) ∧ Below w.heap.size w wr
theorem F1Rel.mk {w : World} {n : Nat} {cs : Array Value} {dv i : Value} {wr : World} (k : Nat) (h1 : k ≤ n) (h2 : i = .int .i64 k) (h3 : wr.ownsRow w.heap.size 3 1 dv k ((List.replicate k (1152921504606846976 : Int)).map intv))
    (h4 : wr.heap[w.heap.size]? = some (.cells cs 24 (0, 0))) (h5 : Below w.heap.size w wr) : F1Rel w n cs dv i wr := ⟨k, h1, h2, h3, h4, h5⟩
/-- The state of the relaxing: the row holds d. -/
def DRow (w : World) (n s : Nat) (E : List (Nat × Nat)) (ws : List Int) (cs : Array Value) (gd cap : Nat) (d : List Int) (wr : World) : Prop :=
  Pot n E ws s d ∧ wr.ownsRow w.heap.size 3 1 (.slice (some ⟨gd, 0, none⟩) n cap) n (d.map intv) ∧ wr.heap[w.heap.size]? = some (.cells cs 24 (0, 0)) ∧ Below w.heap.size w wr
theorem DRow.alloc {w : World} {n s : Nat} {E : List (Nat × Nat)} {ws : List Int} {cs : Array Value} {gd cap : Nat} {d : List Int} {wr : World} (h : DRow w n s E ws cs gd cap d wr) (o : Obj) : DRow w n s E ws cs gd cap d (wr.alloc o) :=
  ⟨h.1, h.2.1.alloc o, blk_below h.2.2.1 (below_alloc' (Below.refl _ _) _), below_alloc' h.2.2.2 o⟩
theorem DRow.drewN {w : World} {n s : Nat} {E : List (Nat × Nat)} {ws : List Int} {cs : Array Value} {gd cap : Nat} {d : List Int} {wr : World} (h : DRow w n s E ws cs gd cap d wr) (m : Nat) : DRow w n s E ws cs gd cap d (wr.drewN m) :=
  ⟨h.1, h.2.1, h.2.2.1, below_drewN' h.2.2.2 m⟩
theorem DRow.drew {w : World} {n s : Nat} {E : List (Nat × Nat)} {ws : List Int} {cs : Array Value} {gd cap : Nat} {d : List Int} {wr : World} (h : DRow w n s E ws cs gd cap d wr) : DRow w n s E ws cs gd cap d wr.drew :=
  ⟨h.1, h.2.1, h.2.2.1, h.2.2.2.drew⟩
theorem DRow.set {w : World} {n s : Nat} {E : List (Nat × Nat)} {ws : List Int} {cs : Array Value} {gd cap : Nat} {d : List Int} {wr : World} (h : DRow w n s E ws cs gd cap d wr) {v : Nat} {x : Int} (hP : Pot n E ws s (d.set v x)) : DRow w n s E ws cs gd cap (d.set v x) (wr.setCell ⟨gd, v, none⟩ (.int .i64 x)) := by
  refine ⟨hP, ?_, blk_far' h.2.2.1 (by intro e; exact absurd (congrArg some e) (own_ne h.2.1 h.2.2.1 (by decide))) _, h.2.2.2.setCell (p := ⟨gd, v, none⟩) (own_lt2 h.2.1).2 _⟩
  have := own_set h.2.1 v (.int .i64 x)
  rwa [show (d.map intv).set v (.int .i64 x) = (d.set v x).map intv from by simp [List.map_set, intv]] at this
theorem Fixed.succ {E : List (Nat × Nat)} {ws d : List Int} {k : Nat} (h : Fixed E ws d k) (h1 : 0 ≤ ws.getD k 0 → d.getD (E.getD k (0, 0)).1 0 < 1152921504606846976 → d.getD (E.getD k (0, 0)).2 0 ≤ d.getD (E.getD k (0, 0)).1 0 + ws.getD k 0) : Fixed E ws d (k + 1) := by
  intro i hi
  by_cases e : i = k
  · subst e; exact h1
  · exact h i (by omega)
def F2Rel (w : World) (n s : Nat) (E : List (Nat × Nat)) (ws : List Int) (cs : Array Value) (gd cap : Nat) (g : Nat) (again : Value) (wr : World) : Prop :=
  ∃ d, DRow w n s E ws cs gd cap d wr ∧ ((again = .bool true ∧ sumd d < g) ∨ (again = .bool false ∧ Fixed E ws d E.length))
def F3Rel (w : World) (n s : Nat) (E : List (Nat × Nat)) (ws : List Int) (cs : Array Value) (gd cap : Nat) (d0 : List Int) (again i : Value) (wr : World) : Prop :=
  ∃ (k : Nat) (d : List Int), k ≤ E.length ∧ i = .int .i64 k ∧ DRow w n s E ws cs gd cap d wr ∧ ((again = .bool true ∧ sumd d < sumd d0) ∨ (again = .bool false ∧ d = d0 ∧ Fixed E ws d k))

set_option maxRecDepth 100000 in
set_option maxHeartbeats 8000000 in
theorem ref38from (n s : Nat) (E : List (Nat × Nat)) (ws : List Int) (A B : Option Addr) (c e : Nat) (w : World) (hG : GraphOk n E ws) (hr : Arcs w A E) (hw : Ints w B ws) (hs : s < n) :
    Calls Try.prog 44 #[.agg #[.int .i64 (n : Int), .slice A E.length c], .slice B ws.length e, .int .i64 (s : Int)] w (RetDist w (IsDist n E ws s)) := by
  have hn := hG.n_le
  have hel := hG.e_le
  have hwl := hG.w_len
  have Hr := hid hr
  have Hw := hid hw
  have HG := hid hG
  have Hwl := hid hwl
  have hwb : ws.length ≤ 4194304 := by omega
  clear hr hw hG hwl
  have d1 : decide ((s : Int) < 0) = false := decide_eq_false (by omega)
  have d2 : decide ((n : Int) ≤ (s : Int)) = false := decide_eq_false (by omega)
  have d3 : decide (n ≤ s) = false := decide_eq_false (by omega)
  go_enter Try.func44, Try.ntmps44
  go_wp2_with fail
  rw [← toI_length E]
  refine (ref38check n A (toI E) c B ws e _ (arcs_toI.1 (by exact Hr.out.below (below_alloc' (Below.refl _ _) _))) (by exact Hw.out.below (below_alloc' (Below.refl _ _) _)) (by omega) (by omega) (by rw [toI_length]; exact hel) (by omega)).mono ?_
  rintro e w1 ⟨r, rfl, hr0, hb⟩
  obtain rfl : r = 0 := hr0.2 ⟨HG.out.arcs, by rw [toI_length]; exact Hwl.out, HG.out.w_ok⟩
  rw [toI_length E] at hb ⊢
  have hb1 : Below w.heap.size w w1 := below_then' (below_alloc' (Below.refl _ _) _) hb
  have kb := blk_below (new_blk w _ _) hb
  have b0 : w1.cell? ⟨w.heap.size, 0, none⟩ = some (.int .i64 (n : Int)) := blk_cell' kb 0
  have b1 : w1.cell? ⟨w.heap.size, 1, none⟩ = some (.slice A E.length c) := blk_cell' kb 1
  have bl := blk_lt' kb
  have Hb1 := hid hb1
  have Kb := hid kb
  clear hb1 hb kb hr0
  go_wp2
  go_loopw [9, 10] (fun dv i wr => F1Rel w n #[.int .i64 (n : Int), .slice A E.length c] dv i wr) (fun _ i _ => n - (intOf i).toNat)
  case atStart => exact F1Rel.mk 0 (Nat.zero_le _) rfl (World.ownsRow_nil _ _ _ _) Kb.out Hb1.out
  case round =>
    obtain ⟨k, hk, rfl, hown, hbox, hnx⟩ := hrel
    have c0 : wr.cell? ⟨w.heap.size, 0, none⟩ = some (.int .i64 (n : Int)) := blk_cell' hbox 0
    have c1 : wr.cell? ⟨w.heap.size, 1, none⟩ = some (.slice A E.length c) := blk_cell' hbox 1
    have cl := blk_lt' hbox
    have Hown := hid hown
    have Hbox := hid hbox
    have Hnx := hid hnx
    clear hown hbox hnx b0 b1 bl
    by_cases hlt : k < n
    · go_wp2_with (first | (at_builtin; refine wp_app1 rfl _ _ 25 3 _ 1 8 rfl Try.underlying25 info_int rfl (by decide) w.heap.size k _ ((List.replicate k (1152921504606846976 : Int)).map intv) _ rfl rfl (by exact Hown.out) rfl (by simp [Value.oneCell']) (by omega) (by omega) (by omega) ?_; intro v' w2 hown2 hgrow2 hloc2))
      go_roundw
      case rel =>
        have hR : F1Rel w n #[.int .i64 (n : Int), .slice A E.length c] v' (.int .i64 ((k + 1 : Nat) : Int)) w2 :=
          F1Rel.mk (k + 1) (by omega) rfl (by simpa [List.replicate_succ', intv] using hown2) (blk_grown Hbox.out hgrow2 (own_ne Hown.out Hbox.out (by decide))) (Hnx.out.grown hgrow2 (by omega) (fun j hj => (Hown.out.lt j hj).1))
        first | exact hR | ((repeat apply Exists.intro); exact ⟨hR, rfl⟩)
      case measure => simp [intOf]; omega
    · have : k = n := by omega
      subst this
      obtain ⟨gd, cap, rfl, hgb, hgl⟩ := Hown.out.form (by omega)
      have hcs : wr.cell? ⟨gd, s, none⟩ = some (.int .i64 1152921504606846976) := by
        rw [Hown.out.cellAt s (by omega)]
        simp [intv, hs]
      have hfs := Hown.out.frozenAt s
      go_wp2
      go_loopg [11] (sumd (dist0 k s) + 1) (fun g again wq => F2Rel w k s E ws #[.int .i64 (k : Int), .slice A E.length c] gd cap g again wq)
      case atStart =>
        refine ⟨dist0 k s, ⟨Pot.zero E ws hs, ?_, blk_far' Hbox.out (by intro h; exact absurd (congrArg some h) (own_ne Hown.out Hbox.out (by decide))) _, Hnx.out.setCell hgb _⟩, .inl ⟨rfl, by omega⟩⟩
        have := own_set Hown.out s (.int .i64 0)
        rwa [show ((List.replicate k (1152921504606846976 : Int)).map intv).set s (.int .i64 0) = (dist0 k s).map intv from by simp [dist0, intv]] at this
      case round =>
        obtain ⟨d, ⟨hP, hdo, hdb, hdn⟩, ⟨rfl, hg⟩ | ⟨rfl, hfix⟩⟩ := hrel
        · clear c0 c1 cl hcs hfs
          have HD0 := hid (show DRow w k s E ws #[.int .i64 (k : Int), .slice A E.length c] gd cap d wr from ⟨hP, hdo, hdb, hdn⟩)
          clear hP hdo hdb hdn Hown Hbox Hnx
          go_wp2
          go_loopw [11, 12] (fun again i wq => F3Rel w k s E ws #[.int .i64 (k : Int), .slice A E.length c] gd cap d again i wq) (fun _ i _ => E.length - (intOf i).toNat)
          case atStart => exact ⟨0, d, Nat.zero_le _, rfl, HD0.out, .inr ⟨rfl, rfl, fun i hi => by omega⟩⟩
          case round =>
            obtain ⟨j, d', hj, rfl, ⟨hP, hdo, hdb, hdn⟩, hagain⟩ := hrel
            have HD := hid (show DRow w k s E ws #[.int .i64 (k : Int), .slice A E.length c] gd cap d' wr from ⟨hP, hdo, hdb, hdn⟩)
            have Hag := hid hagain
            clear hagain
            by_cases hlt : j < E.length
            · obtain ⟨b, o, rfl, hb, cx0, cx1⟩ := Hr.out.at_ hlt
              obtain ⟨b2, o2, rfl, hb2, cw⟩ := Hw.out.at_ (k := j) (by rw [Hwl.out]; exact hlt)
              obtain ⟨u, v, huv⟩ : ∃ u v, E.getD j (0, 0) = (u, v) := ⟨_, _, rfl⟩
              have hltw : j < ws.length := by rw [Hwl.out]; exact hlt
              have hends := HG.out.ends j hlt
              have hwok := HG.out.w_ok j (by rw [Hwl.out]; exact hlt)
              rw [huv] at cx0 cx1 hends
              obtain ⟨hu, hv⟩ := hends
              dsimp only at cx0 cx1 hu hv
              obtain ⟨wj, hwj⟩ : ∃ x, ws.getD j 0 = x := ⟨_, rfl⟩
              rw [hwj] at cw hwok
              obtain ⟨hw1, hw2⟩ := hwok
              replace cx0 := cell_later hdn cx0
              replace cx1 := cell_later hdn cx1
              replace cw := cell_later hdn cw
              have hs3 := hdn.size
              have l1 : b < wr.heap.size := Nat.lt_of_lt_of_le hb hs3
              have l2 : b2 < wr.heap.size := Nat.lt_of_lt_of_le hb2 hs3
              have c0 : wr.cell? ⟨w.heap.size, 0, none⟩ = some (.int .i64 (k : Int)) := blk_cell' hdb 0
              have c1 : wr.cell? ⟨w.heap.size, 1, none⟩ = some (.slice (some ⟨b, o, none⟩) E.length c) := blk_cell' hdb 1
              have cl := blk_lt' hdb
              have l3 : gd < wr.heap.size := (own_lt2 hdo).1
              obtain ⟨du, hdu⟩ : ∃ x, d'.getD u 0 = x := ⟨_, rfl⟩
              obtain ⟨dv, hdv⟩ : ∃ x, d'.getD v 0 = x := ⟨_, rfl⟩
              have cu : wr.cell? ⟨gd, u, none⟩ = some (.int .i64 du) := by
                rw [hdo.cellAt u (by omega)]
                have : u < d'.length := by rw [hP.len]; exact hu
                simp [intv, this, ← hdu, List.getD]
              have cv : wr.cell? ⟨gd, v, none⟩ = some (.int .i64 dv) := by
                rw [hdo.cellAt v (by omega)]
                have : v < d'.length := by rw [hP.len]; exact hv
                simp [intv, this, ← hdv, List.getD]
              have fv := hdo.frozenAt v
              have ru := hP.rng u hu
              have rv := hP.rng v hv
              rw [hdu] at ru
              rw [hdv] at rv
              obtain ⟨ru1, ru2⟩ := ru
              obtain ⟨rv1, rv2⟩ := rv
              have Huv := hid huv
              have Hwj := hid hwj
              have Hdu := hid hdu
              have Hdv := hid hdv
              have HP := hid hP
              clear huv hwj hdu hdv hP hdo hdb hdn
              by_cases q1 : wj < 0
              · have hR : Hid (∀ W, DRow w k s E ws #[.int .i64 (k : Int), .slice (some ⟨b, o, none⟩) E.length c] gd cap d' W → F3Rel w k s E ws #[.int .i64 (k : Int), .slice (some ⟨b, o, none⟩) E.length c] gd cap d u11 (.int .i64 ((j + 1 : Nat) : Int)) W) := by
                  intro W hW
                  refine ⟨j + 1, d', by omega, rfl, hW, Hag.out.imp (fun h => h) (fun h => ⟨h.1, h.2.1, h.2.2.succ (fun h0 => by rw [Hwj.out] at h0; omega)⟩)⟩
                have g1 : decide (0 ≤ wj) = false := decide_eq_false (by omega)
                go_wp2
                go_quiet (fail)
                go_wp2
                go_roundw
                case rel => first | exact hR.out _ ((HD.out.alloc _).drewN _) | ((repeat apply Exists.intro); exact ⟨hR.out _ ((HD.out.alloc _).drewN _), rfl⟩)
                case measure => simp [intOf]; omega
              · have q1' : 0 ≤ wj := by omega
                by_cases q2 : du < 1152921504606846976
                · by_cases q3 : du + wj < dv
                  · have hPn : Hid (Pot k E ws s (d'.set v (du + wj))) := hid (by rw [← Hdu.out, ← Hwj.out]; exact HP.out.relax HG.out.ends hlt Huv.out (by rw [Hwj.out]; exact q1') (by rw [Hdu.out]; exact q2) (by rw [Hdu.out, Hdv.out, Hwj.out]; exact q3) hs)
                    have hlt2 : sumd (d'.set v (du + wj)) < sumd d' := sumd_set d' v (du + wj) (by rw [HP.out.len]; exact hv) (by omega) (by rw [Hdv.out]; exact q3)
                    have hle : Hid (sumd d' ≤ sumd d) := by
                      rcases Hag.out with h | h
                      · exact Nat.le_of_lt h.2
                      · exact Nat.le_of_eq (by rw [h.2.1])
                    have hR : Hid (∀ W, DRow w k s E ws #[.int .i64 (k : Int), .slice (some ⟨b, o, none⟩) E.length c] gd cap (d'.set v (du + wj)) W → F3Rel w k s E ws #[.int .i64 (k : Int), .slice (some ⟨b, o, none⟩) E.length c] gd cap d (.bool true) (.int .i64 ((j + 1 : Nat) : Int)) W) := by
                      intro W hW
                      exact ⟨j + 1, _, by omega, rfl, hW, .inl ⟨rfl, Nat.lt_of_lt_of_le hlt2 hle.out⟩⟩
                    go_wp2
                    go_quiet (fail)
                    go_wp2
                    refine still_tail 14 (by kernel_rfl) (by kernel_rfl) ?_
                    intro W hW
                    have HDW : Hid (DRow w k s E ws #[.int .i64 (k : Int), .slice (some ⟨b, o, none⟩) E.length c] gd cap d' W) := by rw [hW.out]; exact ((HD.out.alloc _).drewN _).drew
                    have hbW : Below wr.heap.size wr W := by rw [hW.out]; exact (below_drewN' (below_alloc' (Below.refl _ _) _) _).drew
                    have hbx : W.heap[wr.heap.size]? = some (.cells #[.int .i64 (u : Int), .int .i64 (v : Int)] 48 (0, 0)) := by rw [hW.out]; exact new_blk wr _ _
                    have e0 : W.cell? ⟨wr.heap.size, 0, none⟩ = some (.int .i64 (u : Int)) := blk_cell' hbx 0
                    have e1 : W.cell? ⟨wr.heap.size, 1, none⟩ = some (.int .i64 (v : Int)) := blk_cell' hbx 1
                    replace cu := cell_later hbW cu
                    replace cv := cell_later hbW cv
                    replace cw := cell_later hbW cw
                    replace fv : W.frozen? ⟨gd, v, none⟩ = false := HDW.out.2.1.frozenAt v
                    clear hbW hbx c0 c1 cx0 cx1 hW
                    simp only [List.take_succ_cons, List.take_zero, List.drop_succ_cons, List.drop_zero]
                    repeat still_step
                    refine wpStill_nil ?_
                    go_wp2
                    go_roundw
                    case rel => first | exact hR.out _ (HDW.out.set hPn.out) | ((repeat apply Exists.intro); exact ⟨hR.out _ (HDW.out.set hPn.out), rfl⟩)
                    case measure => simp [intOf]; omega
                  · have hR : Hid (∀ W, DRow w k s E ws #[.int .i64 (k : Int), .slice (some ⟨b, o, none⟩) E.length c] gd cap d' W → F3Rel w k s E ws #[.int .i64 (k : Int), .slice (some ⟨b, o, none⟩) E.length c] gd cap d u11 (.int .i64 ((j + 1 : Nat) : Int)) W) := by
                      intro W hW
                      refine ⟨j + 1, d', by omega, rfl, hW, Hag.out.imp (fun h => h) (fun h => ⟨h.1, h.2.1, h.2.2.succ (fun _ _ => by rw [Huv.out, Hwj.out]; dsimp only; rw [Hdu.out, Hdv.out]; omega)⟩)⟩
                    go_wp2
                    go_quiet (fail)
                    go_wp2
                    go_roundw
                    case rel => first | exact hR.out _ ((HD.out.alloc _).drewN _) | ((repeat apply Exists.intro); exact ⟨hR.out _ ((HD.out.alloc _).drewN _), rfl⟩)
                    case measure => simp [intOf]; omega
                · have hR : Hid (∀ W, DRow w k s E ws #[.int .i64 (k : Int), .slice (some ⟨b, o, none⟩) E.length c] gd cap d' W → F3Rel w k s E ws #[.int .i64 (k : Int), .slice (some ⟨b, o, none⟩) E.length c] gd cap d u11 (.int .i64 ((j + 1 : Nat) : Int)) W) := by
                    intro W hW
                    refine ⟨j + 1, d', by omega, rfl, hW, Hag.out.imp (fun h => h) (fun h => ⟨h.1, h.2.1, h.2.2.succ (fun _ h0 => by rw [Huv.out] at h0; dsimp only at h0; rw [Hdu.out] at h0; omega)⟩)⟩
                  have g2 : decide (du < 1152921504606846976) = false := decide_eq_false q2
                  go_wp2
                  go_quiet (fail)
                  go_wp2
                  go_roundw
                  case rel => first | exact hR.out _ ((HD.out.alloc _).drewN _) | ((repeat apply Exists.intro); exact ⟨hR.out _ ((HD.out.alloc _).drewN _), rfl⟩)
                  case measure => simp [intOf]; omega
            · have : j = E.length := by omega
              subst this
              have c1 : wr.cell? ⟨w.heap.size, 1, none⟩ = some (.slice A E.length c) := blk_cell' hdb 1
              have cl := blk_lt' hdb
              clear hP hdo hdb hdn
              go_wp2
              go_roundg (sumd d)
              case measure => exact hg
              case rel =>
                have hR : F2Rel w k s E ws #[.int .i64 (k : Int), .slice A E.length c] gd cap (sumd d) u11 wr := ⟨d', HD.out, Hag.out.imp (fun h => h) (fun h => ⟨h.1, h.2.2⟩)⟩
                first | exact hR | ((repeat apply Exists.intro); exact ⟨hR, rfl⟩)
        · have HP := hid hP
          have Hdo := hid hdo
          have Hdn := hid hdn
          have Hfix := hid hfix
          clear hP hdo hdb hdn hfix c0 c1 cl hcs hfs Hown Hbox Hnx
          go_wp2
          go_ret2
          have ho := Hdo.out
          have hlen := HP.out.len
          rw [← hlen] at ho
          obtain ⟨A', c', hv, hc', hf', hI⟩ := own_ints ho
          refine ⟨d, A', c', ?_, isDist_of HG.out.ends hs HP.out Hfix.out, hc', hf', hI, Hdn.out⟩
          rw [← hv, hlen]
          rfl

end Go.Proofs.Ytpfjannhggcmiaa
