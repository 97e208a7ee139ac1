/- Contract of query.climb: the upward search, forward and backward. -/
import Derived.Test.YtpfjannhggcmiaaCl1
import Derived.WalkMore
import Derived.IntWalk
import Derived.Deep.LoopGhost
namespace Go.Proofs.Ytpfjannhggcmiaa
open Go.RowKit Go.Maps

set_option maxRecDepth 100000 in
set_option maxHeartbeats 8000000 in
theorem climb_up {n : Nat} {E : List (Nat × Nat)} {ws : List Int} {order ranks : List Nat} {edges : List (Nat × Nat)} {w : World} {m h : Nat} {M : MD} (H : MetAt w m h M) (G : Good n E ws order ranks edges M) (s : Nat) (hs : s < n) (hn : n ≤ 29) :
    Calls Try.prog 87 #[.pointer (some ⟨m, 0, none⟩), .int .i64 (s : Int), .bool false] w (RetClimb w n (E) ws ranks edges (wUp edges M) s) := by
  have HM := hid H
  have Hg := hid (G.hg)
  have Hw := hid (G.chw)
  have HG := hid G
  have hDn : M.h.n = n := by rw [G.h_eq]; rfl
  have hDe : M.h.edges = edges := by rw [G.h_eq]; rfl
  have hDu : ∀ v, v < n → M.h.up.getD v [] = upOf edges v := fun v hv => by rw [G.h_eq]; exact up_getD edges v hv
  have hedl : edges.length ≤ 1099511627776 := by have := H.ok.h_ok.edges_len; rw [hDe] at this; exact this
  have Dn := hid hDn
  have De := hid hDe
  have Du := hid hDu
  have hmm := @run_makeMap Try.prog
  have EGW := hid (fun args w => enter_of (Try.func80) (by kernel_rfl) rfl args w)
  clear H G hDn hDe hDu
  go_enter Try.func87, Try.ntmps87
  go_wp2
  go_step3
  go_wp2_with fail
  refine (mhier_any (HM.out.below (below_alloc' (Below.refl _ _) _))).mono ?_
  rintro en w1 ⟨rfl, hw1⟩
  subst hw1
  go_wp2_with fail
  refine (edges_any ((HM.out.hier).below (below_alloc' (Below.refl _ _) _))).mono ?_
  rintro en w2 ⟨A9, c9, rfl, hc9, hf9, hN9, hb2⟩
  rw [De.out] at hN9 hc9
  have HB2 := hid (below_then' (below_alloc' (Below.refl w.heap.size w) _) hb2)
  have Kb6 := hid (blk_below (new_blk w _ _) hb2)
  have HN9 := hid hN9
  have hl2 : w.heap.size < w2.heap.size := blk_lt' Kb6.out
  clear hb2 hN9 hf9
  rw [De.out]
  go_wp2_with (first
    | (refine wp_insertN _ rfl _ _ _ 129 rfl 3 Try.underlying129 w2.heap.size 0 (fun _ => none) rfl (by exact NMap.made w2) (by omega) s (by omega) rfl (.int .i64 0) rfl ?_; intro w3 hm3 hg3; have tok : True := trivial; have Hm3 := hid hm3; have Hg3 := hid hg3; clear hm3 hg3)
    | (refine wp_insertN _ rfl _ _ _ 129 rfl 3 Try.underlying129 w3.heap.size 0 (fun _ => none) rfl (by exact NMap.made w3) (by omega) s (by omega) rfl (.int .i64 (-1)) rfl ?_; intro w4 hm4 hg4; have Hm4 := hid hm4; have Hg4 := hid hg4; clear hm4 hg4))
  obtain ⟨bc, hbc⟩ : ∃ bc, bc = w2.heap.size := ⟨_, rfl⟩
  obtain ⟨bv, hbv⟩ : ∃ bv, bv = w3.heap.size := ⟨_, rfl⟩
  obtain ⟨gx, hgx⟩ : ∃ gx, gx = w4.heap.size := ⟨_, rfl⟩
  have hm3 := Hm3.out
  have hm4 := Hm4.out
  have hg3 := Hg3.out
  have hg4 := Hg4.out
  rw [← hbc] at hm3 hg3
  rw [← hbv] at hm4 hg4
  have lc3 : bc < w3.heap.size := hm3.lt
  have hb3 : Below w2.heap.size w2 w3 := (below_alloc' (Below.refl w2.heap.size w2) _).grown hg3 (by simp) (fun j hj => by cases hj; exact Nat.le_of_eq hbc.symm)
  have hb4 : Below w2.heap.size w2 w4 := (hb3.alloc hb3.size _).grown hg4 (Nat.le_trans hb3.size (by simp)) (fun j hj => by cases hj; rw [hbv]; exact hb3.size)
  have HC0 : Hid (ClB (w4.alloc (.cells #[.slice none 0 0, .map (some bc), .map (some bv)] 131)) w2.heap.size gx bc bv (.slice none 0 0) [] (cone s 0) (cone s (-1)) (1 + 0)) := by
    refine ⟨⟨by rw [hgx]; exact hb4.size, Nat.le_of_eq hbc.symm, by rw [hbv]; exact hb3.size⟩, by rw [hgx]; exact new_blk w4 _ _, World.ownsRow_nil _ _ _ _, ⟨1, Nat.le_refl _, ?_⟩, ⟨1, Nat.le_refl _, ?_⟩, by omega⟩
    · have h1 : NMap w3 bc 1 (cmap (cone s 0)) := by rw [← cmap_one]; exact hm3
      have h2 := (h1.below (below_alloc' (Below.refl w3.heap.size w3) (.map #[] 0))).kept hg4 (by simp; omega)
      exact h2.below (below_alloc' (Below.refl _ _) _)
    · have h1 : NMap w4 bv 1 (cmap (cone s (-1))) := by rw [← cmap_one]; exact hm4
      exact h1.below (below_alloc' (Below.refl _ _) _)
  have HB9 : Hid (Below w2.heap.size w2 (w4.alloc (.cells #[.slice none 0 0, .map (some bc), .map (some bv)] 131))) := below_alloc' hb4 _
  rw [← hbc, ← hbv, ← hgx]
  clear Hm3 Hm4 Hg3 Hg4 hm3 hm4 hg3 hg4 lc3 hb3 hb4 hbc hbv hgx tok hmm
  obtain ⟨W9, hW9⟩ : ∃ W9, W9 = w4.alloc (.cells #[.slice none 0 0, .map (some bc), .map (some bv)] 131) := ⟨_, rfl⟩
  rw [← hW9] at HC0 HB9 ⊢
  clear hW9
  go_wp2
  go_step3
  go_wp2
  go_loopw [11] (fun x wr => ClO w2 n (E) ws ranks edges (wUp edges M) s w2.heap.size gx bc bv x wr) (fun x _ => mClO n ranks x)
  case atStart => exact ⟨HB9.out, .inl ⟨s, [], _, _, _, rfl, ClimbAt.start Hg.out hs, HC0.out.mono (by omega)⟩⟩
  case round =>
    obtain ⟨hnx, hor⟩ := hrel
    clear HC0 HB9
    rcases hor with ⟨v, l, cost, via, vv, rfl, hat, hB⟩ | ⟨l, cost, via, vv, N, rfl, hend, hB⟩
    · have HB := hid hB
      have Hnx := hid hnx
      have Hat := hid hat
      have hvn : v < n := hat.vn
      have hrv : ranks.getD v 0 < n := Hg.out.perm.rlt v hvn
      have HMr := hid (HM.out.below (HB2.out.trans (hnx.mono HB2.out.size)))
      have k1 : wr.cell? ⟨gx, 1, none⟩ = some (.map (some bc)) := blk_cell' hB.blk 1
      have k0 : wr.cell? ⟨gx, 0, none⟩ = some vv := blk_cell' hB.blk 0
      have lx := blk_lt' hB.blk
      obtain ⟨nn, hnn, hmc⟩ := hB.mc
      have hl : (Instr.lookup 129 (.map (some bc)) (.int .i64 (v : Int)) true).run Try.prog wr = .ok (.tuple #[.int .i64 ((cost v).getD 0), .bool (cost v).isSome]) wr := by
        have := hmc.look Try.underlying129 (zero_int wr) true v (by omega)
        unfold cmap at this
        simpa [getD_intv, isSome_intv] using this
      clear hmc hnn hat hB hnx
      cases hcv : cost v with
      | none =>
        rw [hcv] at hl
        simp only [Option.getD_none, Option.isSome_none] at hl
        have Hcv := hid hcv
        clear hcv
        have HN := hid (clo_next (Dh := M.h) Hg.out Hat.out (.inr Hcv.out) (.inr ⟨Hcv.out, rfl⟩) HB.out (by omega) Hnx.out (Du.out v hvn) De.out)
        go_wp2_with fail
        refine (parent_any v HMr.out.hier (by rw [Dn.out]; exact hvn)).mono ?_
        rintro en w5 ⟨rfl, hb5⟩
        have HO := hid (HN.out.1.below Hnx.out.size hb5)
        have Hms := hid HN.out.2
        clear HN hb5
        go_wp2
        go_roundw
        case rel =>
          have hR := HO.out
          first | exact hR | ((repeat apply Exists.intro); exact ⟨hR, rfl⟩)
        case measure => exact Hms.out
      | some cv =>
        rw [hcv] at hl
        simp only [Option.getD_some, Option.isSome_some] at hl
        have hcw := Hat.out.cl.walk v cv hcv
        have hcv0 : 0 ≤ cv := hcw.2.1
        have hcv1 : cv ≤ 288230376151711744 := by
          have h1 := hcw.2.2.1
          have h2 := pow_le (j := ranks.getD v 0) (k := 28) (by omega)
          have h3 : (2 : Int) ^ (30 + 28) = 288230376151711744 := by decide
          omega
        have hll : l.length ≤ n := by
          have h1 := Hat.out.sorted
          have h2 : (l.map fun p => ranks.getD p.1 0).Pairwise (· < ·) := List.pairwise_map.2 h1
          have h3 := sorted_short h2 (n := n) (fun x hx => by
            obtain ⟨p, hp, rfl⟩ := List.mem_map.1 hx
            have := Hat.out.low p.1 p.2 hp
            exact Hg.out.perm.rlt _ (Hat.out.cl.walk _ _ this.1).1)
          simpa using h3
        have Hcv := hid hcv
        clear hcv hcw
        go_wp2_with (first
          | (at_builtin; refine wp_app1 rfl _ _ 38 79 _ 2 16 rfl Try.underlying38 info_reached rfl (by decide) w2.heap.size l.length _ (l.flatMap pairv) [.int .i64 (v : Int), .int .i64 cv] rfl rfl (by exact HB.out.row) rfl (by simp [Value.oneCell']) (by omega) (by omega) (by exact Hnx.out.size) ?_; intro v' w5 hown5 hgrow5 hloc5; obtain ⟨A5, c5, hv5, _, _, _⟩ := own_row hown5; subst hv5; have hbx5 := blk_grown HB.out.blk hgrow5 (own_ne HB.out.row HB.out.blk (by decide)); have j0 : w5.cell? ⟨gx, 0, none⟩ = some vv := blk_cell' hbx5 0; have jf := blk_free hbx5 0; have jl := blk_lt' hbx5; have Hbx5 := hid hbx5; have Hown5 := hid hown5; have Hgrow5 := hid hgrow5; clear hbx5 hown5 hgrow5 hloc5))
        have HB6 := hid (HB.out.app Hgrow5.out Hown5.out)
        have Hnx6 := hid (((Hnx.out.grown Hgrow5.out Hnx.out.size (fun j hj => (HB.out.row.lt j hj).1))).setCell (p := ⟨gx, 0, none⟩) HB.out.bx.1 (.slice A5 (l.length + 1) c5))
        clear Hgrow5 Hown5 Hbx5 j0 jf jl k0 k1 lx hl
        obtain ⟨w6, hw6⟩ : ∃ w6, w6 = w5.setCell ⟨gx, 0, none⟩ (.slice A5 (l.length + 1) c5) := ⟨_, rfl⟩
        rw [← hw6] at HB6 Hnx6 ⊢
        clear hw6 HMr
        have HM6 := hid (HM.out.below (HB2.out.trans (Hnx6.out.mono HB2.out.size)))
        go_wp2_with fail
        refine (up_any v HM6.out.hier (by rw [Dn.out]; exact hvn) (by rw [Du.out v hvn]; exact Nat.le_trans (upOf_len _ _) hedl)).mono ?_
        rintro en w7 ⟨A7, c7, rfl, hc7, hf7, hN7, hb7⟩
        rw [Du.out v hvn] at hN7 hc7 ⊢
        have HN7 := hid hN7
        have HB7 := hid (HB6.out.below hb7)
        have Hnx7 := hid (Hnx6.out.trans (hb7.mono Hnx6.out.size))
        have hul : (upOf edges v).length ≤ edges.length := upOf_len _ _
        have Hf7 := hid hf7
        have Hlc : Hid (bc < w6.heap.size ∧ bv < w6.heap.size) := by
          obtain ⟨n1, _, h2⟩ := HB6.out.mc
          obtain ⟨n2, _, h4⟩ := HB6.out.mv
          exact ⟨h2.lt, h4.lt⟩
        clear hN7 hf7 hb7 HB6 Hnx6 HM6
        obtain ⟨L, hL⟩ : ∃ L, L = upOf edges v := ⟨_, rfl⟩
        have HL := hid hL
        rw [← hL] at HN7 hc7 hul ⊢
        clear hL
        go_wp2
        go_loopw [63] (fun x wr => ClI w2 n (E) ws ranks edges (wUp edges M) s w2.heap.size gx bc bv v cv l x wr ∧ Nats wr A7 L) (fun x _ => L.length - (intOf x).toNat)
        case atStart => exact ⟨⟨Hnx7.out, 0, cost, via, _, Nat.zero_le _, rfl, Hcv.out, Hat.out, HB7.out.mono (by omega)⟩, HN7.out⟩
        case round =>
          obtain ⟨⟨hnx, j, cost2, via2, vv2, hj, rfl, hcv2, hat, hB⟩, hN⟩ := hrel
          rw [← HL.out] at hj
          have HB2' := hid hB
          have Hat2 := hid hat
          have Hnx2 := hid hnx
          have HN2 := hid hN
          have Hcv2 := hid hcv2
          have HMr := hid (HM.out.below (HB2.out.trans (hnx.mono HB2.out.size)))
          clear hcv2 hat hB HB HN7 HB7 Hnx7 Hcv Hat Hnx
          by_cases hlt : j < L.length
          · obtain ⟨b, o, rfl, hb, cx⟩ := hN.at_ hlt
            obtain ⟨e, he⟩ : ∃ e, L.getD j 0 = e := ⟨_, rfl⟩
            rw [he] at cx
            have hme : e ∈ upOf edges v := by rw [← HL.out, ← he]; exact getD_mem2 hlt
            obtain ⟨hel, hef⟩ := mem_upOf.1 hme
            obtain ⟨u, hu⟩ : ∃ u, (edges.getD e (0, 0)).2 = u := ⟨_, rfl⟩
            have hev : edges.getD e (0, 0) = (v, u) := Prod.ext hef hu
            have hmm : (v, u) ∈ edges := by have := edge_mem hel; rw [hef, hu] at this; exact this
            have hun : u < n := (Hg.out.lt _ _ hmm).2.1
            obtain ⟨b9, o9, rfl, hb9, _, cu⟩ := HN9.out.at_ hel
            rw [hu] at cu
            replace cu := cell_later hnx cu
            have lb9 : b9 < wr.heap.size := Nat.lt_of_lt_of_le hb9 hnx.size
            obtain ⟨wv, hwv⟩ : ∃ wv, M.up.getD e 0 = wv := ⟨_, rfl⟩
            have hwU : wUp edges M v u = wv := by
              unfold wUp
              rw [← hev, Hg.out.idx hel]
              exact hwv
            have hUr := Hw.out.rng v u hmm
            rw [hwU] at hUr
            have hw0 := hUr.1
            have hw1 := hUr.2.1
            unfold INF at hw1
            have hup := mup_any e HMr.out (by rw [De.out]; exact hel)
            rw [hwv] at hup
            have Hup := hid hup
            have He : Hid ((upOf edges v).getD j 0 = e) := by rw [← HL.out]; exact he
            have Hev := hid hev
            have HwU := hid hwU
            clear hme hef hu hev hwv hwU hup he hnx hN hUr
            have kb1 : wr.cell? ⟨gx, 1, none⟩ = some (.map (some bc)) := blk_cell' HB2'.out.blk 1
            have kb2 : wr.cell? ⟨gx, 2, none⟩ = some (.map (some bv)) := blk_cell' HB2'.out.blk 2
            have lx := blk_lt' HB2'.out.blk
            obtain ⟨nn, hnn, hmc⟩ := HB2'.out.mc
            obtain ⟨nv, hnv, hmv⟩ := HB2'.out.mv
            have hl : (Instr.lookup 129 (.map (some bc)) (.int .i64 (u : Int)) true).run Try.prog wr = .ok (.tuple #[.int .i64 ((cost2 u).getD 0), .bool (cost2 u).isSome]) wr := by
              have := hmc.look Try.underlying129 (zero_int wr) true u (by omega)
              unfold cmap at this
              simpa [getD_intv, isSome_intv] using this
            have Hmc := hid hmc
            have Hmv := hid hmv
            have hjL : j ≤ 1099511627776 := by omega
            clear hmc hmv
            by_cases hfin : wv < 1152921504606846976
            · have t1 : decide ((1152921504606846976 : Int) ≤ wv) = false := decide_eq_false (by omega)
              have Hfin : Hid (wUp edges M v u < INF) := by rw [HwU.out]; exact hfin
              have hsum : Hid (∀ cu, cost2 u = some cu → 0 ≤ cu ∧ cu ≤ 288230376151711744) := fun cu hcu => by
                have h := Hat2.out.cl.walk u cu hcu
                have h1 := h.2.2.1
                have h2 := pow_le (j := ranks.getD u 0) (k := 28) (by have := Hg.out.perm.rlt u hun; omega)
                have h3 : (2 : Int) ^ (30 + 28) = 288230376151711744 := by decide
                exact ⟨h.2.1, by omega⟩
              cases hcu : cost2 u with
              | none =>
                rw [hcu] at hl
                simp only [Option.getD_none, Option.isSome_none] at hl
                have Hcu := hid hcu
                clear hcu
                --F<A
                go_wp2_with fail
                refine Hup.out.mono ?_
                rintro en w9 ⟨rfl, hw9⟩
                have hw9' := hw9.symm
                subst hw9'
                go_wp2
                have hwr : IntKind.i64.wrap (cv + wv) = cv + wv := IntWalk.i64_in _ (by omega)
                refine wp_region_mix (fun w' => w'.cell? ⟨gx, 1, none⟩ = some (.map (some bc)) ∧ w'.cell? ⟨gx, 2, none⟩ = some (.map (some bv))) 11 [(0, true), (1, true), (2, true), (3, true), (4, true), (5, true), (6, true), (7, true), (8, true), (9, true), (10, false)] (by kernel_rfl) (by kernel_rfl) ⟨kb1, kb2⟩ ?_
                iterate 10
                  refine mix_take (v := ?_) rfl (by rfl) ?_ ?_
                  rotate_left
                  · (intro W hSW; (try dsimp only at hSW); go_split_ands; go_simp; try with_reducible rfl)
                  simp only [Act.put, List.setIfInBounds_toArray, List.set_cons_zero, List.set_cons_succ]
                refine mix_putN (m := .tmp 94) (x := .tmp 95) (v := .tmp 101) (t := 129) (by kernel_rfl) 3 Try.underlying129 bc nn (cmap cost2) (by kernel_rfl) (by exact Hmc.out.same rfl) (by omega) u (by omega) (by kernel_rfl) (.int .i64 (cv + wv)) (by kernel_rfl) ?_
                intro w10 hm10 hg10
                have hx10 := blk_grown (show wr.drew.heap[gx]? = _ from HB2'.out.blk) hg10 (by simpa using HB2'.out.ngc)
                refine ⟨⟨blk_cell' hx10 1, blk_cell' hx10 2⟩, ?_⟩
                try simp only [Act.put, List.setIfInBounds_toArray, List.set_cons_zero, List.set_cons_succ]
                refine mix_putN_last (m := .tmp 97) (x := .tmp 98) (v := .tmp 102) (t := 129) (by kernel_rfl) 3 Try.underlying129 bv nv (cmap via2) (by kernel_rfl) (by exact (Hmv.out.same (w' := wr.drew) rfl).kept hg10 (by simpa using (Ne.symm HB2'.out.ne))) (by omega) u (by omega) (by kernel_rfl) (.int .i64 (e : Int)) (by kernel_rfl) ?_
                intro w11 hm11 hg11
                refine NoPanic.normal ?_
                have HB11 := hid (HB2'.out.below (Below.refl _ _).drew |>.put (c := cv + wv) (e := (e : Int)) hm10 hnn hg10 hm11 hnv hg11)
                have hle : w2.heap.size ≤ w10.heap.size := Nat.le_trans Hnx2.out.size hg10.size
                have Hnx11 := hid ((Hnx2.out.drew.grown hg10 Hnx2.out.size (fun j hj => by cases hj; exact HB2'.out.bx.2.1)).grown hg11 hle (fun j hj => by cases hj; exact HB2'.out.bx.2.2))
                have HN11 := hid (((HN2.out.below (Below.refl _ _).drew).grown hg10 (fun ad h h2 => by have h3 := Hf7.out ad h; have h4 := Hlc.out.1; rw [show ad.block = bc by simpa using h2] at h3; omega)).grown hg11 (fun ad h h2 => by have h3 := Hf7.out ad h; have h4 := Hlc.out.2; rw [show ad.block = bv by simpa using h2] at h3; omega))
                have Hat3 := hid (Hat2.out.relax Hg.out Hw.out u e (by rw [← HL.out]; exact hlt) He.out Hev.out cv Hcv2.out Hfin.out (fun cu hc => by rw [Hcu.out] at hc; cases hc))
                rw [HwU.out] at Hat3
                have Hc3 : Hid (cput cost2 u (cv + wv) v = some cv) := by rw [cput_other _ _ _ (by rintro rfl; have := (Hg.out.lt _ _ hmm).2.2; omega)]; exact Hcv2.out
                clear hm10 hg10 hx10 hm11 hg11 kb1 kb2 hle hwr
                go_wp2
                go_roundw
                case rel =>
                  have hR : ClI w2 n (E) ws ranks edges (wUp edges M) s w2.heap.size gx bc bv v cv l (.int .i64 ((j + 1 : Nat) : Int)) w11 ∧ Nats w11 (some ⟨b, o, none⟩) L := ⟨⟨Hnx11.out, j + 1, _, _, vv2, by rw [← HL.out]; omega, rfl, Hc3.out, Hat3.out, HB11.out⟩, HN11.out⟩
                  first | exact hR | ((repeat apply Exists.intro); exact ⟨hR, rfl⟩)
                case measure => simp [intOf]; omega
                --F>A
              | some cu =>
                rw [hcu] at hl
                simp only [Option.getD_some, Option.isSome_some] at hl
                have hcr := hsum.out cu hcu
                have Hcu := hid hcu
                clear hcu
                by_cases hless : cv + wv < cu
                ·
                  --F<B
                  go_wp2_with fail
                  refine Hup.out.mono ?_
                  rintro en w9 ⟨rfl, hw9⟩
                  have hw9' := hw9.symm
                  subst hw9'
                  go_wp2
                  have hwr : IntKind.i64.wrap (cv + wv) = cv + wv := IntWalk.i64_in _ (by omega)
                  refine wp_region_mix (fun w' => w'.cell? ⟨gx, 1, none⟩ = some (.map (some bc)) ∧ w'.cell? ⟨gx, 2, none⟩ = some (.map (some bv))) 11 [(0, true), (1, true), (2, true), (3, true), (4, true), (5, true), (6, true), (7, true), (8, true), (9, true), (10, false)] (by kernel_rfl) (by kernel_rfl) ⟨kb1, kb2⟩ ?_
                  iterate 10
                    refine mix_take (v := ?_) rfl (by rfl) ?_ ?_
                    rotate_left
                    · (intro W hSW; (try dsimp only at hSW); go_split_ands; go_simp; try with_reducible rfl)
                    simp only [Act.put, List.setIfInBounds_toArray, List.set_cons_zero, List.set_cons_succ]
                  refine mix_putN (m := .tmp 94) (x := .tmp 95) (v := .tmp 101) (t := 129) (by kernel_rfl) 3 Try.underlying129 bc nn (cmap cost2) (by kernel_rfl) (by exact Hmc.out.same rfl) (by omega) u (by omega) (by kernel_rfl) (.int .i64 (cv + wv)) (by kernel_rfl) ?_
                  intro w10 hm10 hg10
                  have hx10 := blk_grown (show wr.drew.heap[gx]? = _ from HB2'.out.blk) hg10 (by simpa using HB2'.out.ngc)
                  refine ⟨⟨blk_cell' hx10 1, blk_cell' hx10 2⟩, ?_⟩
                  try simp only [Act.put, List.setIfInBounds_toArray, List.set_cons_zero, List.set_cons_succ]
                  refine mix_putN_last (m := .tmp 97) (x := .tmp 98) (v := .tmp 102) (t := 129) (by kernel_rfl) 3 Try.underlying129 bv nv (cmap via2) (by kernel_rfl) (by exact (Hmv.out.same (w' := wr.drew) rfl).kept hg10 (by simpa using (Ne.symm HB2'.out.ne))) (by omega) u (by omega) (by kernel_rfl) (.int .i64 (e : Int)) (by kernel_rfl) ?_
                  intro w11 hm11 hg11
                  refine NoPanic.normal ?_
                  have HB11 := hid (HB2'.out.below (Below.refl _ _).drew |>.put (c := cv + wv) (e := (e : Int)) hm10 hnn hg10 hm11 hnv hg11)
                  have hle : w2.heap.size ≤ w10.heap.size := Nat.le_trans Hnx2.out.size hg10.size
                  have Hnx11 := hid ((Hnx2.out.drew.grown hg10 Hnx2.out.size (fun j hj => by cases hj; exact HB2'.out.bx.2.1)).grown hg11 hle (fun j hj => by cases hj; exact HB2'.out.bx.2.2))
                  have HN11 := hid (((HN2.out.below (Below.refl _ _).drew).grown hg10 (fun ad h h2 => by have h3 := Hf7.out ad h; have h4 := Hlc.out.1; rw [show ad.block = bc by simpa using h2] at h3; omega)).grown hg11 (fun ad h h2 => by have h3 := Hf7.out ad h; have h4 := Hlc.out.2; rw [show ad.block = bv by simpa using h2] at h3; omega))
                  have Hat3 := hid (Hat2.out.relax Hg.out Hw.out u e (by rw [← HL.out]; exact hlt) He.out Hev.out cv Hcv2.out Hfin.out (fun c' hc => by rw [Hcu.out] at hc; cases hc; rw [HwU.out]; exact hless))
                  rw [HwU.out] at Hat3
                  have Hc3 : Hid (cput cost2 u (cv + wv) v = some cv) := by rw [cput_other _ _ _ (by rintro rfl; have := (Hg.out.lt _ _ hmm).2.2; omega)]; exact Hcv2.out
                  clear hm10 hg10 hx10 hm11 hg11 kb1 kb2 hle hwr
                  go_wp2
                  go_roundw
                  case rel =>
                    have hR : ClI w2 n (E) ws ranks edges (wUp edges M) s w2.heap.size gx bc bv v cv l (.int .i64 ((j + 1 : Nat) : Int)) w11 ∧ Nats w11 (some ⟨b, o, none⟩) L := ⟨⟨Hnx11.out, j + 1, _, _, vv2, by rw [← HL.out]; omega, rfl, Hc3.out, Hat3.out, HB11.out⟩, HN11.out⟩
                    first | exact hR | ((repeat apply Exists.intro); exact ⟨hR, rfl⟩)
                  case measure => simp [intOf]; omega
                  --F>B
                ·
                  --F<C
                  go_wp2_with fail
                  refine Hup.out.mono ?_
                  rintro en w9 ⟨rfl, hw9⟩
                  have hw9' := hw9.symm
                  subst hw9'
                  have Hat3 := hid (Hat2.out.skip u (by rw [He.out]; exact Hev.out) (.inr ⟨cv, cu, Hcv2.out, Hcu.out, by rw [HwU.out]; omega⟩))
                  go_wp2
                  go_roundw
                  case rel =>
                    have hR : ClI w2 n (E) ws ranks edges (wUp edges M) s w2.heap.size gx bc bv v cv l (.int .i64 ((j + 1 : Nat) : Int)) wr ∧ Nats wr (some ⟨b, o, none⟩) L := ⟨⟨Hnx2.out, j + 1, _, _, vv2, by rw [← HL.out]; omega, rfl, Hcv2.out, Hat3.out, HB2'.out.mono (by omega)⟩, HN2.out⟩
                    first | exact hR | ((repeat apply Exists.intro); exact ⟨hR, rfl⟩)
                  case measure => simp [intOf]; omega
                  --F>C
            · have t1 : decide ((1152921504606846976 : Int) ≤ wv) = true := decide_eq_true (by omega)
              --F<D
              go_wp2_with fail
              refine Hup.out.mono ?_
              rintro en w9 ⟨rfl, hw9⟩
              have hw9' := hw9.symm
              subst hw9'
              have Hat3 := hid (Hat2.out.skip u (by rw [He.out]; exact Hev.out) (.inl (by rw [HwU.out]; unfold INF; omega)))
              go_wp2
              go_roundw
              case rel =>
                have hR : ClI w2 n (E) ws ranks edges (wUp edges M) s w2.heap.size gx bc bv v cv l (.int .i64 ((j + 1 : Nat) : Int)) wr ∧ Nats wr (some ⟨b, o, none⟩) L := ⟨⟨Hnx2.out, j + 1, _, _, vv2, by rw [← HL.out]; omega, rfl, Hcv2.out, Hat3.out, HB2'.out.mono (by omega)⟩, HN2.out⟩
                first | exact hR | ((repeat apply Exists.intro); exact ⟨hR, rfl⟩)
              case measure => simp [intOf]; omega
              --F>D
          ·
            --F<E
            have hje : j = (upOf edges v).length := by rw [← HL.out]; omega
            have HN := hid (clo_next (Dh := M.h) Hg.out Hat2.out (.inl hje) (.inl ⟨cv, Hcv2.out, rfl⟩) HB2'.out (by omega) hnx (Du.out v hvn) De.out)
            have hsz : Hid (w2.heap.size ≤ wr.heap.size) := hnx.size
            clear hN hnx hje
            go_wp2_with fail
            refine (parent_any v HMr.out.hier (by rw [Dn.out]; exact hvn)).mono ?_
            rintro en w9 ⟨rfl, hb9⟩
            have HO := hid (HN.out.1.below hsz.out hb9)
            have Hms := hid HN.out.2
            clear HN hb9
            go_wp2
            go_roundw
            case rel =>
              have hR := HO.out
              first | exact hR | ((repeat apply Exists.intro); exact ⟨hR, rfl⟩)
            case measure => exact Hms.out
            --F>E
    ·
      --F<G
      have hbx := hB.blk
      obtain ⟨A5, c5, rfl, hc5, hf5, hP5⟩ := own_pairs hB.row
      obtain ⟨n1, _, hm1⟩ := hB.mc
      obtain ⟨n2, _, hm2⟩ := hB.mv
      have k0 : wr.cell? ⟨gx, 0, none⟩ = some (.slice A5 l.length c5) := blk_cell' hbx 0
      have k1 : wr.cell? ⟨gx, 1, none⟩ = some (.map (some bc)) := blk_cell' hbx 1
      have k2 : wr.cell? ⟨gx, 2, none⟩ = some (.map (some bv)) := blk_cell' hbx 2
      have lx := blk_lt' hbx
      have hb6 := blk_below Kb6.out hnx
      have f0 := blk_free hb6 0
      have f1 := blk_free hb6 1
      have f2 := blk_free hb6 2
      have r0 : wr.cell? ⟨w.heap.size, 0, none⟩ = some (.slice none 0 0) := blk_cell' hb6 0
      have r1 : wr.cell? ⟨w.heap.size, 1, none⟩ = some (.map none) := blk_cell' hb6 1
      have r2 : wr.cell? ⟨w.heap.size, 2, none⟩ = some (.map none) := blk_cell' hb6 2
      have l6 := blk_lt' hb6
      have HB := hid hB
      have Hend := hid hend
      have Hnx := hid hnx
      have HP5 := hid hP5
      have Hm1 := hid hm1
      have Hm2 := hid hm2
      have Hb6 := hid hb6
      have Hf5 := hid hf5
      clear hB hend hnx hP5 hm1 hm2 hbx hb6 hf5
      go_wp2
      rw [Exit.noGoto_ret]
      have q := blk_set' (blk_set' (blk_set' Hb6.out 0 (.slice A5 l.length c5)) 1 (.map (some bc))) 2 (.map (some bv))
      have q0 := blk_cell' q 0
      have q1 := blk_cell' q 1
      have q2 := blk_cell' q 2
      simp at q0 q1 q2
      have hz := Hnx.out.size
      have nc : bc ≠ w.heap.size := by have := HB.out.bx.2.1; omega
      have nv : bv ≠ w.heap.size := by have := HB.out.bx.2.2; omega
      refine bodyPost_ret (v := .agg #[.slice A5 l.length c5, .map (some bc), .map (some bv)]) (by simp [results, Try.results87, go_sem, q0, q1, q2]) rfl ⟨A5, c5, l, bc, bv, n1, n2, cost, via, rfl, hc5, Hf5.out.mono HB2.out.size, ?_, ?_, ?_, Hend.out, ?_⟩
      · have hf : ∀ ad, A5 = some ad → ad.block ≠ w.heap.size := fun ad h h2 => by have := Hf5.out ad h; omega
        exact ((HP5.out.far hf _).far hf _).far hf _
      · exact ((Hm1.out.same (Below.heap_setCell wr ⟨w.heap.size, 0, none⟩ _ bc nc)).same (Below.heap_setCell _ ⟨w.heap.size, 1, none⟩ _ bc nc)).same (Below.heap_setCell _ ⟨w.heap.size, 2, none⟩ _ bc nc)
      · exact ((Hm2.out.same (Below.heap_setCell wr ⟨w.heap.size, 0, none⟩ _ bv nv)).same (Below.heap_setCell _ ⟨w.heap.size, 1, none⟩ _ bv nv)).same (Below.heap_setCell _ ⟨w.heap.size, 2, none⟩ _ bv nv)
      · exact (((HB2.out.trans (Hnx.out.mono HB2.out.size)).setCell (Nat.le_refl _) _).setCell (Nat.le_refl _) _).setCell (Nat.le_refl _) _
      --F>G
set_option maxRecDepth 100000 in
set_option maxHeartbeats 8000000 in
theorem climb_down {n : Nat} {E : List (Nat × Nat)} {ws : List Int} {order ranks : List Nat} {edges : List (Nat × Nat)} {w : World} {m h : Nat} {M : MD} (H : MetAt w m h M) (G : Good n E ws order ranks edges M) (s : Nat) (hs : s < n) (hn : n ≤ 29) :
    Calls Try.prog 87 #[.pointer (some ⟨m, 0, none⟩), .int .i64 (s : Int), .bool true] w (RetClimb w n (swapE E) ws ranks edges (wDown edges M) s) := by
  have HM := hid H
  have Hg := hid (G.hg.swap)
  have Hw := hid (G.chw.swap)
  have HG := hid G
  have hDn : M.h.n = n := by rw [G.h_eq]; rfl
  have hDe : M.h.edges = edges := by rw [G.h_eq]; rfl
  have hDu : ∀ v, v < n → M.h.up.getD v [] = upOf edges v := fun v hv => by rw [G.h_eq]; exact up_getD edges v hv
  have hedl : edges.length ≤ 1099511627776 := by have := H.ok.h_ok.edges_len; rw [hDe] at this; exact this
  have Dn := hid hDn
  have De := hid hDe
  have Du := hid hDu
  have hmm := @run_makeMap Try.prog
  have EGW := hid (fun args w => enter_of (Try.func79) (by kernel_rfl) rfl args w)
  clear H G hDn hDe hDu
  go_enter Try.func87, Try.ntmps87
  go_wp2
  go_step3
  go_wp2_with fail
  refine (mhier_any (HM.out.below (below_alloc' (Below.refl _ _) _))).mono ?_
  rintro en w1 ⟨rfl, hw1⟩
  subst hw1
  go_wp2_with fail
  refine (edges_any ((HM.out.hier).below (below_alloc' (Below.refl _ _) _))).mono ?_
  rintro en w2 ⟨A9, c9, rfl, hc9, hf9, hN9, hb2⟩
  rw [De.out] at hN9 hc9
  have HB2 := hid (below_then' (below_alloc' (Below.refl w.heap.size w) _) hb2)
  have Kb6 := hid (blk_below (new_blk w _ _) hb2)
  have HN9 := hid hN9
  have hl2 : w.heap.size < w2.heap.size := blk_lt' Kb6.out
  clear hb2 hN9 hf9
  rw [De.out]
  go_wp2_with (first
    | (refine wp_insertN _ rfl _ _ _ 129 rfl 3 Try.underlying129 w2.heap.size 0 (fun _ => none) rfl (by exact NMap.made w2) (by omega) s (by omega) rfl (.int .i64 0) rfl ?_; intro w3 hm3 hg3; have tok : True := trivial; have Hm3 := hid hm3; have Hg3 := hid hg3; clear hm3 hg3)
    | (refine wp_insertN _ rfl _ _ _ 129 rfl 3 Try.underlying129 w3.heap.size 0 (fun _ => none) rfl (by exact NMap.made w3) (by omega) s (by omega) rfl (.int .i64 (-1)) rfl ?_; intro w4 hm4 hg4; have Hm4 := hid hm4; have Hg4 := hid hg4; clear hm4 hg4))
  obtain ⟨bc, hbc⟩ : ∃ bc, bc = w2.heap.size := ⟨_, rfl⟩
  obtain ⟨bv, hbv⟩ : ∃ bv, bv = w3.heap.size := ⟨_, rfl⟩
  obtain ⟨gx, hgx⟩ : ∃ gx, gx = w4.heap.size := ⟨_, rfl⟩
  have hm3 := Hm3.out
  have hm4 := Hm4.out
  have hg3 := Hg3.out
  have hg4 := Hg4.out
  rw [← hbc] at hm3 hg3
  rw [← hbv] at hm4 hg4
  have lc3 : bc < w3.heap.size := hm3.lt
  have hb3 : Below w2.heap.size w2 w3 := (below_alloc' (Below.refl w2.heap.size w2) _).grown hg3 (by simp) (fun j hj => by cases hj; exact Nat.le_of_eq hbc.symm)
  have hb4 : Below w2.heap.size w2 w4 := (hb3.alloc hb3.size _).grown hg4 (Nat.le_trans hb3.size (by simp)) (fun j hj => by cases hj; rw [hbv]; exact hb3.size)
  have HC0 : Hid (ClB (w4.alloc (.cells #[.slice none 0 0, .map (some bc), .map (some bv)] 131)) w2.heap.size gx bc bv (.slice none 0 0) [] (cone s 0) (cone s (-1)) (1 + 0)) := by
    refine ⟨⟨by rw [hgx]; exact hb4.size, Nat.le_of_eq hbc.symm, by rw [hbv]; exact hb3.size⟩, by rw [hgx]; exact new_blk w4 _ _, World.ownsRow_nil _ _ _ _, ⟨1, Nat.le_refl _, ?_⟩, ⟨1, Nat.le_refl _, ?_⟩, by omega⟩
    · have h1 : NMap w3 bc 1 (cmap (cone s 0)) := by rw [← cmap_one]; exact hm3
      have h2 := (h1.below (below_alloc' (Below.refl w3.heap.size w3) (.map #[] 0))).kept hg4 (by simp; omega)
      exact h2.below (below_alloc' (Below.refl _ _) _)
    · have h1 : NMap w4 bv 1 (cmap (cone s (-1))) := by rw [← cmap_one]; exact hm4
      exact h1.below (below_alloc' (Below.refl _ _) _)
  have HB9 : Hid (Below w2.heap.size w2 (w4.alloc (.cells #[.slice none 0 0, .map (some bc), .map (some bv)] 131))) := below_alloc' hb4 _
  rw [← hbc, ← hbv, ← hgx]
  clear Hm3 Hm4 Hg3 Hg4 hm3 hm4 hg3 hg4 lc3 hb3 hb4 hbc hbv hgx tok hmm
  obtain ⟨W9, hW9⟩ : ∃ W9, W9 = w4.alloc (.cells #[.slice none 0 0, .map (some bc), .map (some bv)] 131) := ⟨_, rfl⟩
  rw [← hW9] at HC0 HB9 ⊢
  clear hW9
  go_wp2
  go_step3
  go_wp2
  go_loopw [11] (fun x wr => ClO w2 n (swapE E) ws ranks edges (wDown edges M) s w2.heap.size gx bc bv x wr) (fun x _ => mClO n ranks x)
  case atStart => exact ⟨HB9.out, .inl ⟨s, [], _, _, _, rfl, ClimbAt.start Hg.out hs, HC0.out.mono (by omega)⟩⟩
  case round =>
    obtain ⟨hnx, hor⟩ := hrel
    clear HC0 HB9
    rcases hor with ⟨v, l, cost, via, vv, rfl, hat, hB⟩ | ⟨l, cost, via, vv, N, rfl, hend, hB⟩
    · have HB := hid hB
      have Hnx := hid hnx
      have Hat := hid hat
      have hvn : v < n := hat.vn
      have hrv : ranks.getD v 0 < n := Hg.out.perm.rlt v hvn
      have HMr := hid (HM.out.below (HB2.out.trans (hnx.mono HB2.out.size)))
      have k1 : wr.cell? ⟨gx, 1, none⟩ = some (.map (some bc)) := blk_cell' hB.blk 1
      have k0 : wr.cell? ⟨gx, 0, none⟩ = some vv := blk_cell' hB.blk 0
      have lx := blk_lt' hB.blk
      obtain ⟨nn, hnn, hmc⟩ := hB.mc
      have hl : (Instr.lookup 129 (.map (some bc)) (.int .i64 (v : Int)) true).run Try.prog wr = .ok (.tuple #[.int .i64 ((cost v).getD 0), .bool (cost v).isSome]) wr := by
        have := hmc.look Try.underlying129 (zero_int wr) true v (by omega)
        unfold cmap at this
        simpa [getD_intv, isSome_intv] using this
      clear hmc hnn hat hB hnx
      cases hcv : cost v with
      | none =>
        rw [hcv] at hl
        simp only [Option.getD_none, Option.isSome_none] at hl
        have Hcv := hid hcv
        clear hcv
        have HN := hid (clo_next (Dh := M.h) Hg.out Hat.out (.inr Hcv.out) (.inr ⟨Hcv.out, rfl⟩) HB.out (by omega) Hnx.out (Du.out v hvn) De.out)
        go_wp2_with fail
        refine (parent_any v HMr.out.hier (by rw [Dn.out]; exact hvn)).mono ?_
        rintro en w5 ⟨rfl, hb5⟩
        have HO := hid (HN.out.1.below Hnx.out.size hb5)
        have Hms := hid HN.out.2
        clear HN hb5
        go_wp2
        go_roundw
        case rel =>
          have hR := HO.out
          first | exact hR | ((repeat apply Exists.intro); exact ⟨hR, rfl⟩)
        case measure => exact Hms.out
      | some cv =>
        rw [hcv] at hl
        simp only [Option.getD_some, Option.isSome_some] at hl
        have hcw := Hat.out.cl.walk v cv hcv
        have hcv0 : 0 ≤ cv := hcw.2.1
        have hcv1 : cv ≤ 288230376151711744 := by
          have h1 := hcw.2.2.1
          have h2 := pow_le (j := ranks.getD v 0) (k := 28) (by omega)
          have h3 : (2 : Int) ^ (30 + 28) = 288230376151711744 := by decide
          omega
        have hll : l.length ≤ n := by
          have h1 := Hat.out.sorted
          have h2 : (l.map fun p => ranks.getD p.1 0).Pairwise (· < ·) := List.pairwise_map.2 h1
          have h3 := sorted_short h2 (n := n) (fun x hx => by
            obtain ⟨p, hp, rfl⟩ := List.mem_map.1 hx
            have := Hat.out.low p.1 p.2 hp
            exact Hg.out.perm.rlt _ (Hat.out.cl.walk _ _ this.1).1)
          simpa using h3
        have Hcv := hid hcv
        clear hcv hcw
        go_wp2_with (first
          | (at_builtin; refine wp_app1 rfl _ _ 38 79 _ 2 16 rfl Try.underlying38 info_reached rfl (by decide) w2.heap.size l.length _ (l.flatMap pairv) [.int .i64 (v : Int), .int .i64 cv] rfl rfl (by exact HB.out.row) rfl (by simp [Value.oneCell']) (by omega) (by omega) (by exact Hnx.out.size) ?_; intro v' w5 hown5 hgrow5 hloc5; obtain ⟨A5, c5, hv5, _, _, _⟩ := own_row hown5; subst hv5; have hbx5 := blk_grown HB.out.blk hgrow5 (own_ne HB.out.row HB.out.blk (by decide)); have j0 : w5.cell? ⟨gx, 0, none⟩ = some vv := blk_cell' hbx5 0; have jf := blk_free hbx5 0; have jl := blk_lt' hbx5; have Hbx5 := hid hbx5; have Hown5 := hid hown5; have Hgrow5 := hid hgrow5; clear hbx5 hown5 hgrow5 hloc5))
        have HB6 := hid (HB.out.app Hgrow5.out Hown5.out)
        have Hnx6 := hid (((Hnx.out.grown Hgrow5.out Hnx.out.size (fun j hj => (HB.out.row.lt j hj).1))).setCell (p := ⟨gx, 0, none⟩) HB.out.bx.1 (.slice A5 (l.length + 1) c5))
        clear Hgrow5 Hown5 Hbx5 j0 jf jl k0 k1 lx hl
        obtain ⟨w6, hw6⟩ : ∃ w6, w6 = w5.setCell ⟨gx, 0, none⟩ (.slice A5 (l.length + 1) c5) := ⟨_, rfl⟩
        rw [← hw6] at HB6 Hnx6 ⊢
        clear hw6 HMr
        have HM6 := hid (HM.out.below (HB2.out.trans (Hnx6.out.mono HB2.out.size)))
        go_wp2_with fail
        refine (up_any v HM6.out.hier (by rw [Dn.out]; exact hvn) (by rw [Du.out v hvn]; exact Nat.le_trans (upOf_len _ _) hedl)).mono ?_
        rintro en w7 ⟨A7, c7, rfl, hc7, hf7, hN7, hb7⟩
        rw [Du.out v hvn] at hN7 hc7 ⊢
        have HN7 := hid hN7
        have HB7 := hid (HB6.out.below hb7)
        have Hnx7 := hid (Hnx6.out.trans (hb7.mono Hnx6.out.size))
        have hul : (upOf edges v).length ≤ edges.length := upOf_len _ _
        have Hf7 := hid hf7
        have Hlc : Hid (bc < w6.heap.size ∧ bv < w6.heap.size) := by
          obtain ⟨n1, _, h2⟩ := HB6.out.mc
          obtain ⟨n2, _, h4⟩ := HB6.out.mv
          exact ⟨h2.lt, h4.lt⟩
        clear hN7 hf7 hb7 HB6 Hnx6 HM6
        obtain ⟨L, hL⟩ : ∃ L, L = upOf edges v := ⟨_, rfl⟩
        have HL := hid hL
        rw [← hL] at HN7 hc7 hul ⊢
        clear hL
        go_wp2
        go_loopw [63] (fun x wr => ClI w2 n (swapE E) ws ranks edges (wDown edges M) s w2.heap.size gx bc bv v cv l x wr ∧ Nats wr A7 L) (fun x _ => L.length - (intOf x).toNat)
        case atStart => exact ⟨⟨Hnx7.out, 0, cost, via, _, Nat.zero_le _, rfl, Hcv.out, Hat.out, HB7.out.mono (by omega)⟩, HN7.out⟩
        case round =>
          obtain ⟨⟨hnx, j, cost2, via2, vv2, hj, rfl, hcv2, hat, hB⟩, hN⟩ := hrel
          rw [← HL.out] at hj
          have HB2' := hid hB
          have Hat2 := hid hat
          have Hnx2 := hid hnx
          have HN2 := hid hN
          have Hcv2 := hid hcv2
          have HMr := hid (HM.out.below (HB2.out.trans (hnx.mono HB2.out.size)))
          clear hcv2 hat hB HB HN7 HB7 Hnx7 Hcv Hat Hnx
          by_cases hlt : j < L.length
          · obtain ⟨b, o, rfl, hb, cx⟩ := hN.at_ hlt
            obtain ⟨e, he⟩ : ∃ e, L.getD j 0 = e := ⟨_, rfl⟩
            rw [he] at cx
            have hme : e ∈ upOf edges v := by rw [← HL.out, ← he]; exact getD_mem2 hlt
            obtain ⟨hel, hef⟩ := mem_upOf.1 hme
            obtain ⟨u, hu⟩ : ∃ u, (edges.getD e (0, 0)).2 = u := ⟨_, rfl⟩
            have hev : edges.getD e (0, 0) = (v, u) := Prod.ext hef hu
            have hmm : (v, u) ∈ edges := by have := edge_mem hel; rw [hef, hu] at this; exact this
            have hun : u < n := (Hg.out.lt _ _ hmm).2.1
            obtain ⟨b9, o9, rfl, hb9, _, cu⟩ := HN9.out.at_ hel
            rw [hu] at cu
            replace cu := cell_later hnx cu
            have lb9 : b9 < wr.heap.size := Nat.lt_of_lt_of_le hb9 hnx.size
            obtain ⟨wv, hwv⟩ : ∃ wv, M.down.getD e 0 = wv := ⟨_, rfl⟩
            have hwU : wDown edges M v u = wv := by
              unfold wDown
              rw [← hev, Hg.out.idx hel]
              exact hwv
            have hUr := Hw.out.rng v u hmm
            rw [hwU] at hUr
            have hw0 := hUr.1
            have hw1 := hUr.2.1
            unfold INF at hw1
            have hup := mdown_any e HMr.out (by rw [De.out]; exact hel)
            rw [hwv] at hup
            have Hup := hid hup
            have He : Hid ((upOf edges v).getD j 0 = e) := by rw [← HL.out]; exact he
            have Hev := hid hev
            have HwU := hid hwU
            clear hme hef hu hev hwv hwU hup he hnx hN hUr
            have kb1 : wr.cell? ⟨gx, 1, none⟩ = some (.map (some bc)) := blk_cell' HB2'.out.blk 1
            have kb2 : wr.cell? ⟨gx, 2, none⟩ = some (.map (some bv)) := blk_cell' HB2'.out.blk 2
            have lx := blk_lt' HB2'.out.blk
            obtain ⟨nn, hnn, hmc⟩ := HB2'.out.mc
            obtain ⟨nv, hnv, hmv⟩ := HB2'.out.mv
            have hl : (Instr.lookup 129 (.map (some bc)) (.int .i64 (u : Int)) true).run Try.prog wr = .ok (.tuple #[.int .i64 ((cost2 u).getD 0), .bool (cost2 u).isSome]) wr := by
              have := hmc.look Try.underlying129 (zero_int wr) true u (by omega)
              unfold cmap at this
              simpa [getD_intv, isSome_intv] using this
            have Hmc := hid hmc
            have Hmv := hid hmv
            have hjL : j ≤ 1099511627776 := by omega
            clear hmc hmv
            by_cases hfin : wv < 1152921504606846976
            · have t1 : decide ((1152921504606846976 : Int) ≤ wv) = false := decide_eq_false (by omega)
              have Hfin : Hid (wDown edges M v u < INF) := by rw [HwU.out]; exact hfin
              have hsum : Hid (∀ cu, cost2 u = some cu → 0 ≤ cu ∧ cu ≤ 288230376151711744) := fun cu hcu => by
                have h := Hat2.out.cl.walk u cu hcu
                have h1 := h.2.2.1
                have h2 := pow_le (j := ranks.getD u 0) (k := 28) (by have := Hg.out.perm.rlt u hun; omega)
                have h3 : (2 : Int) ^ (30 + 28) = 288230376151711744 := by decide
                exact ⟨h.2.1, by omega⟩
              cases hcu : cost2 u with
              | none =>
                rw [hcu] at hl
                simp only [Option.getD_none, Option.isSome_none] at hl
                have Hcu := hid hcu
                clear hcu
                --F<A
                go_wp2_with fail
                refine Hup.out.mono ?_
                rintro en w9 ⟨rfl, hw9⟩
                have hw9' := hw9.symm
                subst hw9'
                go_wp2
                have hwr : IntKind.i64.wrap (cv + wv) = cv + wv := IntWalk.i64_in _ (by omega)
                refine wp_region_mix (fun w' => w'.cell? ⟨gx, 1, none⟩ = some (.map (some bc)) ∧ w'.cell? ⟨gx, 2, none⟩ = some (.map (some bv))) 11 [(0, true), (1, true), (2, true), (3, true), (4, true), (5, true), (6, true), (7, true), (8, true), (9, true), (10, false)] (by kernel_rfl) (by kernel_rfl) ⟨kb1, kb2⟩ ?_
                iterate 10
                  refine mix_take (v := ?_) rfl (by rfl) ?_ ?_
                  rotate_left
                  · (intro W hSW; (try dsimp only at hSW); go_split_ands; go_simp; try with_reducible rfl)
                  simp only [Act.put, List.setIfInBounds_toArray, List.set_cons_zero, List.set_cons_succ]
                refine mix_putN (m := .tmp 94) (x := .tmp 95) (v := .tmp 101) (t := 129) (by kernel_rfl) 3 Try.underlying129 bc nn (cmap cost2) (by kernel_rfl) (by exact Hmc.out.same rfl) (by omega) u (by omega) (by kernel_rfl) (.int .i64 (cv + wv)) (by kernel_rfl) ?_
                intro w10 hm10 hg10
                have hx10 := blk_grown (show wr.drew.heap[gx]? = _ from HB2'.out.blk) hg10 (by simpa using HB2'.out.ngc)
                refine ⟨⟨blk_cell' hx10 1, blk_cell' hx10 2⟩, ?_⟩
                try simp only [Act.put, List.setIfInBounds_toArray, List.set_cons_zero, List.set_cons_succ]
                refine mix_putN_last (m := .tmp 97) (x := .tmp 98) (v := .tmp 102) (t := 129) (by kernel_rfl) 3 Try.underlying129 bv nv (cmap via2) (by kernel_rfl) (by exact (Hmv.out.same (w' := wr.drew) rfl).kept hg10 (by simpa using (Ne.symm HB2'.out.ne))) (by omega) u (by omega) (by kernel_rfl) (.int .i64 (e : Int)) (by kernel_rfl) ?_
                intro w11 hm11 hg11
                refine NoPanic.normal ?_
                have HB11 := hid (HB2'.out.below (Below.refl _ _).drew |>.put (c := cv + wv) (e := (e : Int)) hm10 hnn hg10 hm11 hnv hg11)
                have hle : w2.heap.size ≤ w10.heap.size := Nat.le_trans Hnx2.out.size hg10.size
                have Hnx11 := hid ((Hnx2.out.drew.grown hg10 Hnx2.out.size (fun j hj => by cases hj; exact HB2'.out.bx.2.1)).grown hg11 hle (fun j hj => by cases hj; exact HB2'.out.bx.2.2))
                have HN11 := hid (((HN2.out.below (Below.refl _ _).drew).grown hg10 (fun ad h h2 => by have h3 := Hf7.out ad h; have h4 := Hlc.out.1; rw [show ad.block = bc by simpa using h2] at h3; omega)).grown hg11 (fun ad h h2 => by have h3 := Hf7.out ad h; have h4 := Hlc.out.2; rw [show ad.block = bv by simpa using h2] at h3; omega))
                have Hat3 := hid (Hat2.out.relax Hg.out Hw.out u e (by rw [← HL.out]; exact hlt) He.out Hev.out cv Hcv2.out Hfin.out (fun cu hc => by rw [Hcu.out] at hc; cases hc))
                rw [HwU.out] at Hat3
                have Hc3 : Hid (cput cost2 u (cv + wv) v = some cv) := by rw [cput_other _ _ _ (by rintro rfl; have := (Hg.out.lt _ _ hmm).2.2; omega)]; exact Hcv2.out
                clear hm10 hg10 hx10 hm11 hg11 kb1 kb2 hle hwr
                go_wp2
                go_roundw
                case rel =>
                  have hR : ClI w2 n (swapE E) ws ranks edges (wDown edges M) s w2.heap.size gx bc bv v cv l (.int .i64 ((j + 1 : Nat) : Int)) w11 ∧ Nats w11 (some ⟨b, o, none⟩) L := ⟨⟨Hnx11.out, j + 1, _, _, vv2, by rw [← HL.out]; omega, rfl, Hc3.out, Hat3.out, HB11.out⟩, HN11.out⟩
                  first | exact hR | ((repeat apply Exists.intro); exact ⟨hR, rfl⟩)
                case measure => simp [intOf]; omega
                --F>A
              | some cu =>
                rw [hcu] at hl
                simp only [Option.getD_some, Option.isSome_some] at hl
                have hcr := hsum.out cu hcu
                have Hcu := hid hcu
                clear hcu
                by_cases hless : cv + wv < cu
                ·
                  --F<B
                  go_wp2_with fail
                  refine Hup.out.mono ?_
                  rintro en w9 ⟨rfl, hw9⟩
                  have hw9' := hw9.symm
                  subst hw9'
                  go_wp2
                  have hwr : IntKind.i64.wrap (cv + wv) = cv + wv := IntWalk.i64_in _ (by omega)
                  refine wp_region_mix (fun w' => w'.cell? ⟨gx, 1, none⟩ = some (.map (some bc)) ∧ w'.cell? ⟨gx, 2, none⟩ = some (.map (some bv))) 11 [(0, true), (1, true), (2, true), (3, true), (4, true), (5, true), (6, true), (7, true), (8, true), (9, true), (10, false)] (by kernel_rfl) (by kernel_rfl) ⟨kb1, kb2⟩ ?_
                  iterate 10
                    refine mix_take (v := ?_) rfl (by rfl) ?_ ?_
                    rotate_left
                    · (intro W hSW; (try dsimp only at hSW); go_split_ands; go_simp; try with_reducible rfl)
                    simp only [Act.put, List.setIfInBounds_toArray, List.set_cons_zero, List.set_cons_succ]
                  refine mix_putN (m := .tmp 94) (x := .tmp 95) (v := .tmp 101) (t := 129) (by kernel_rfl) 3 Try.underlying129 bc nn (cmap cost2) (by kernel_rfl) (by exact Hmc.out.same rfl) (by omega) u (by omega) (by kernel_rfl) (.int .i64 (cv + wv)) (by kernel_rfl) ?_
                  intro w10 hm10 hg10
                  have hx10 := blk_grown (show wr.drew.heap[gx]? = _ from HB2'.out.blk) hg10 (by simpa using HB2'.out.ngc)
                  refine ⟨⟨blk_cell' hx10 1, blk_cell' hx10 2⟩, ?_⟩
                  try simp only [Act.put, List.setIfInBounds_toArray, List.set_cons_zero, List.set_cons_succ]
                  refine mix_putN_last (m := .tmp 97) (x := .tmp 98) (v := .tmp 102) (t := 129) (by kernel_rfl) 3 Try.underlying129 bv nv (cmap via2) (by kernel_rfl) (by exact (Hmv.out.same (w' := wr.drew) rfl).kept hg10 (by simpa using (Ne.symm HB2'.out.ne))) (by omega) u (by omega) (by kernel_rfl) (.int .i64 (e : Int)) (by kernel_rfl) ?_
                  intro w11 hm11 hg11
                  refine NoPanic.normal ?_
                  have HB11 := hid (HB2'.out.below (Below.refl _ _).drew |>.put (c := cv + wv) (e := (e : Int)) hm10 hnn hg10 hm11 hnv hg11)
                  have hle : w2.heap.size ≤ w10.heap.size := Nat.le_trans Hnx2.out.size hg10.size
                  have Hnx11 := hid ((Hnx2.out.drew.grown hg10 Hnx2.out.size (fun j hj => by cases hj; exact HB2'.out.bx.2.1)).grown hg11 hle (fun j hj => by cases hj; exact HB2'.out.bx.2.2))
                  have HN11 := hid (((HN2.out.below (Below.refl _ _).drew).grown hg10 (fun ad h h2 => by have h3 := Hf7.out ad h; have h4 := Hlc.out.1; rw [show ad.block = bc by simpa using h2] at h3; omega)).grown hg11 (fun ad h h2 => by have h3 := Hf7.out ad h; have h4 := Hlc.out.2; rw [show ad.block = bv by simpa using h2] at h3; omega))
                  have Hat3 := hid (Hat2.out.relax Hg.out Hw.out u e (by rw [← HL.out]; exact hlt) He.out Hev.out cv Hcv2.out Hfin.out (fun c' hc => by rw [Hcu.out] at hc; cases hc; rw [HwU.out]; exact hless))
                  rw [HwU.out] at Hat3
                  have Hc3 : Hid (cput cost2 u (cv + wv) v = some cv) := by rw [cput_other _ _ _ (by rintro rfl; have := (Hg.out.lt _ _ hmm).2.2; omega)]; exact Hcv2.out
                  clear hm10 hg10 hx10 hm11 hg11 kb1 kb2 hle hwr
                  go_wp2
                  go_roundw
                  case rel =>
                    have hR : ClI w2 n (swapE E) ws ranks edges (wDown edges M) s w2.heap.size gx bc bv v cv l (.int .i64 ((j + 1 : Nat) : Int)) w11 ∧ Nats w11 (some ⟨b, o, none⟩) L := ⟨⟨Hnx11.out, j + 1, _, _, vv2, by rw [← HL.out]; omega, rfl, Hc3.out, Hat3.out, HB11.out⟩, HN11.out⟩
                    first | exact hR | ((repeat apply Exists.intro); exact ⟨hR, rfl⟩)
                  case measure => simp [intOf]; omega
                  --F>B
                ·
                  --F<C
                  go_wp2_with fail
                  refine Hup.out.mono ?_
                  rintro en w9 ⟨rfl, hw9⟩
                  have hw9' := hw9.symm
                  subst hw9'
                  have Hat3 := hid (Hat2.out.skip u (by rw [He.out]; exact Hev.out) (.inr ⟨cv, cu, Hcv2.out, Hcu.out, by rw [HwU.out]; omega⟩))
                  go_wp2
                  go_roundw
                  case rel =>
                    have hR : ClI w2 n (swapE E) ws ranks edges (wDown edges M) s w2.heap.size gx bc bv v cv l (.int .i64 ((j + 1 : Nat) : Int)) wr ∧ Nats wr (some ⟨b, o, none⟩) L := ⟨⟨Hnx2.out, j + 1, _, _, vv2, by rw [← HL.out]; omega, rfl, Hcv2.out, Hat3.out, HB2'.out.mono (by omega)⟩, HN2.out⟩
                    first | exact hR | ((repeat apply Exists.intro); exact ⟨hR, rfl⟩)
                  case measure => simp [intOf]; omega
                  --F>C
            · have t1 : decide ((1152921504606846976 : Int) ≤ wv) = true := decide_eq_true (by omega)
              --F<D
              go_wp2_with fail
              refine Hup.out.mono ?_
              rintro en w9 ⟨rfl, hw9⟩
              have hw9' := hw9.symm
              subst hw9'
              have Hat3 := hid (Hat2.out.skip u (by rw [He.out]; exact Hev.out) (.inl (by rw [HwU.out]; unfold INF; omega)))
              go_wp2
              go_roundw
              case rel =>
                have hR : ClI w2 n (swapE E) ws ranks edges (wDown edges M) s w2.heap.size gx bc bv v cv l (.int .i64 ((j + 1 : Nat) : Int)) wr ∧ Nats wr (some ⟨b, o, none⟩) L := ⟨⟨Hnx2.out, j + 1, _, _, vv2, by rw [← HL.out]; omega, rfl, Hcv2.out, Hat3.out, HB2'.out.mono (by omega)⟩, HN2.out⟩
                first | exact hR | ((repeat apply Exists.intro); exact ⟨hR, rfl⟩)
              case measure => simp [intOf]; omega
              --F>D
          ·
            --F<E
            have hje : j = (upOf edges v).length := by rw [← HL.out]; omega
            have HN := hid (clo_next (Dh := M.h) Hg.out Hat2.out (.inl hje) (.inl ⟨cv, Hcv2.out, rfl⟩) HB2'.out (by omega) hnx (Du.out v hvn) De.out)
            have hsz : Hid (w2.heap.size ≤ wr.heap.size) := hnx.size
            clear hN hnx hje
            go_wp2_with fail
            refine (parent_any v HMr.out.hier (by rw [Dn.out]; exact hvn)).mono ?_
            rintro en w9 ⟨rfl, hb9⟩
            have HO := hid (HN.out.1.below hsz.out hb9)
            have Hms := hid HN.out.2
            clear HN hb9
            go_wp2
            go_roundw
            case rel =>
              have hR := HO.out
              first | exact hR | ((repeat apply Exists.intro); exact ⟨hR, rfl⟩)
            case measure => exact Hms.out
            --F>E
    ·
      --F<G
      have hbx := hB.blk
      obtain ⟨A5, c5, rfl, hc5, hf5, hP5⟩ := own_pairs hB.row
      obtain ⟨n1, _, hm1⟩ := hB.mc
      obtain ⟨n2, _, hm2⟩ := hB.mv
      have k0 : wr.cell? ⟨gx, 0, none⟩ = some (.slice A5 l.length c5) := blk_cell' hbx 0
      have k1 : wr.cell? ⟨gx, 1, none⟩ = some (.map (some bc)) := blk_cell' hbx 1
      have k2 : wr.cell? ⟨gx, 2, none⟩ = some (.map (some bv)) := blk_cell' hbx 2
      have lx := blk_lt' hbx
      have hb6 := blk_below Kb6.out hnx
      have f0 := blk_free hb6 0
      have f1 := blk_free hb6 1
      have f2 := blk_free hb6 2
      have r0 : wr.cell? ⟨w.heap.size, 0, none⟩ = some (.slice none 0 0) := blk_cell' hb6 0
      have r1 : wr.cell? ⟨w.heap.size, 1, none⟩ = some (.map none) := blk_cell' hb6 1
      have r2 : wr.cell? ⟨w.heap.size, 2, none⟩ = some (.map none) := blk_cell' hb6 2
      have l6 := blk_lt' hb6
      have HB := hid hB
      have Hend := hid hend
      have Hnx := hid hnx
      have HP5 := hid hP5
      have Hm1 := hid hm1
      have Hm2 := hid hm2
      have Hb6 := hid hb6
      have Hf5 := hid hf5
      clear hB hend hnx hP5 hm1 hm2 hbx hb6 hf5
      go_wp2
      rw [Exit.noGoto_ret]
      have q := blk_set' (blk_set' (blk_set' Hb6.out 0 (.slice A5 l.length c5)) 1 (.map (some bc))) 2 (.map (some bv))
      have q0 := blk_cell' q 0
      have q1 := blk_cell' q 1
      have q2 := blk_cell' q 2
      simp at q0 q1 q2
      have hz := Hnx.out.size
      have nc : bc ≠ w.heap.size := by have := HB.out.bx.2.1; omega
      have nv : bv ≠ w.heap.size := by have := HB.out.bx.2.2; omega
      refine bodyPost_ret (v := .agg #[.slice A5 l.length c5, .map (some bc), .map (some bv)]) (by simp [results, Try.results87, go_sem, q0, q1, q2]) rfl ⟨A5, c5, l, bc, bv, n1, n2, cost, via, rfl, hc5, Hf5.out.mono HB2.out.size, ?_, ?_, ?_, Hend.out, ?_⟩
      · have hf : ∀ ad, A5 = some ad → ad.block ≠ w.heap.size := fun ad h h2 => by have := Hf5.out ad h; omega
        exact ((HP5.out.far hf _).far hf _).far hf _
      · exact ((Hm1.out.same (Below.heap_setCell wr ⟨w.heap.size, 0, none⟩ _ bc nc)).same (Below.heap_setCell _ ⟨w.heap.size, 1, none⟩ _ bc nc)).same (Below.heap_setCell _ ⟨w.heap.size, 2, none⟩ _ bc nc)
      · exact ((Hm2.out.same (Below.heap_setCell wr ⟨w.heap.size, 0, none⟩ _ bv nv)).same (Below.heap_setCell _ ⟨w.heap.size, 1, none⟩ _ bv nv)).same (Below.heap_setCell _ ⟨w.heap.size, 2, none⟩ _ bv nv)
      · exact (((HB2.out.trans (Hnx.out.mono HB2.out.size)).setCell (Nat.le_refl _) _).setCell (Nat.le_refl _) _).setCell (Nat.le_refl _) _
      --F>G

end Go.Proofs.Ytpfjannhggcmiaa
