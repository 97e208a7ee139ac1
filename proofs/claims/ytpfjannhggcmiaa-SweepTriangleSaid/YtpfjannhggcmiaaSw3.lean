/- Contract of sweep.all: distances from a vertex, and to it. -/
import Derived.Test.YtpfjannhggcmiaaSw2
import Derived.Laws.EntriesVeiled
namespace Go.Proofs.Ytpfjannhggcmiaa
open Go.RowKit Go.Maps

theorem Good.rngD {n : Nat} {E : List (Nat × Nat)} {ws : List Int} {order ranks : List Nat} {edges : List (Nat × Nat)} {M : MD} (G : Good n E ws order ranks edges M) (hM : M.ok) (i : Nat) : (0 ≤ M.up.getD i 0 ∧ M.up.getD i 0 ≤ INF) ∧ (0 ≤ M.down.getD i 0 ∧ M.down.getD i 0 ≤ INF) := by
  by_cases e : i < edges.length
  · have := G.least i e
    exact ⟨⟨this.1.nonneg, this.1.le_inf⟩, ⟨this.2.nonneg, this.2.le_inf⟩⟩
  · have hl : M.h.edges = edges := by rw [G.h_eq]; rfl
    have h1 := hM.up_len
    have h2 := hM.down_len
    rw [hl] at h1 h2
    have hz : ∀ L : List Int, L.length = edges.length → L.getD i 0 = 0 := fun L hL => by rw [List.getD_eq_getElem?_getD, List.getElem?_eq_none (by omega)]; rfl
    rw [hz _ h1, hz _ h2]
    decide
theorem ret_dist {A : Option Addr} {t c : Nat} {dd : List Int} {i : Value} (h : dd.length = t) : Ending.returned (.tuple #[.slice A t c, i]) = .returned (.tuple #[.slice A dd.length c, i]) := by rw [h]
def Fl1 (W1 : World) (n go b11 : Nat) (i : Value) (wr : World) : Prop :=
  ∃ k : Nat, k ≤ n ∧ i = .int .i64 k ∧ wr.heap[go]? = some (.cells ((fillD n k).map intv).toArray 3 (0, 0)) ∧ wr.heap[b11]? = some (.cells #[.slice (some ⟨go, 0, none⟩) n n] 25 (0, 0)) ∧ Below W1.heap.size W1 wr
def Fl2 (W5 : World) (n go : Nat) (l : List (Nat × Int)) (i : Value) (wr : World) : Prop :=
  ∃ k : Nat, k ≤ l.length ∧ i = .int .i64 k ∧ wr.heap[go]? = some (.cells ((listD n (l.take k)).map intv).toArray 3 (0, 0)) ∧ W5.grownBy wr (some go)
def Sw3R (W10 : World) (n : Nat) (E : List (Nat × Nat)) (ws : List Int) (ranks : List Nat) (edges : List (Nat × Nat)) (D : Nat → Nat → Int) (s : Nat) (cost : Nat → Option Int) (go : Nat) (x : Value) (wr : World) : Prop :=
  ∃ (k j : Nat) (d : List Int), k ≤ n ∧ x = .int .i64 k ∧ W10.grownBy wr (some go) ∧ wr.heap[go]? = some (.cells (d.map intv).toArray 3 (0, 0)) ∧ SweepAt n E ws ranks edges D s cost (n - k) j d ∧ ∀ u, u < n → ranks.getD u 0 = n - k → j = (upOf edges u).length
def Sw4R (W12 : World) (n : Nat) (E : List (Nat × Nat)) (ws : List Int) (ranks : List Nat) (edges : List (Nat × Nat)) (D : Nat → Nat → Int) (s : Nat) (cost : Nat → Option Int) (go r len : Nat) (x : Value) (wr : World) : Prop :=
  ∃ (j : Nat) (d : List Int), j ≤ len ∧ x = .int .i64 j ∧ W12.grownBy wr (some go) ∧ wr.heap[go]? = some (.cells (d.map intv).toArray 3 (0, 0)) ∧ SweepAt n E ws ranks edges D s cost r j d
theorem grown_refl (w : World) (r : Option Nat) : w.grownBy w r := ⟨rfl, rfl, rfl, Nat.le_refl _, fun _ _ _ => rfl⟩
theorem below_grown2 {B : Nat} {W w w' : World} {g : Nat} (h : Below B W w) (hg : w.grownBy w' (some g)) (hB : B ≤ g) (hs : B ≤ w.heap.size) : Below B W w' := h.grown hg hs (fun k hk => by cases hk; exact hB)
theorem grown_below {w w1 w2 : World} {r : Option Nat} (h : w.grownBy w1 r) (hb : Below w1.heap.size w1 w2) : w.grownBy w2 r :=
  ⟨hb.os.trans h.os, hb.tape.trans h.tape, hb.output.trans h.output, Nat.le_trans h.size hb.size, fun k hk hne => (hb.block k (Nat.lt_of_lt_of_le hk h.size)).trans (h.block k hk hne)⟩

set_option maxRecDepth 100000 in
set_option maxHeartbeats 8000000 in
theorem all_from {n : Nat} {E : List (Nat × Nat)} {ws : List Int} {order ranks : List Nat} {edges : List (Nat × Nat)} {w : World} {m h : Nat} {M : MD} (H : MetAt w m h M) (G : Good n E ws order ranks edges M) (s : Nat) (hs : s < n) (hn : n ≤ 29) :
    Calls Try.prog 43 #[.pointer (some ⟨m, 0, none⟩), .int .i64 (s : Int), .bool false] w (RetDist w (IsDist n (E) ws s)) := by
  have HM := hid H
  have Hg := hid (G.hg)
  have Hw := hid (G.chw)
  have HG := hid G
  have hDn : M.h.n = n := by rw [G.h_eq]; rfl
  have hDe : M.h.edges = edges := by rw [G.h_eq]; rfl
  have hDo : M.h.order = order := by rw [G.h_eq]; rfl
  have hDu : ∀ v, v < n → M.h.up.getD v [] = upOf edges v := fun v hv => by rw [G.h_eq]; exact up_getD edges v hv
  have hedl : edges.length ≤ 1099511627776 := by have := H.ok.h_ok.edges_len; rw [hDe] at this; exact this
  have Dn := hid hDn
  have De := hid hDe
  have Do := hid hDo
  have Du := hid hDu
  have Hol : Hid (order.length = n) := G.hg.perm.olen
  have hmk := run_make_ints n (by omega)
  have d1 : decide ((s : Int) < 0) = false := decide_eq_false (by omega)
  have d2 : decide (n ≤ s) = false := decide_eq_false (by omega)
  clear H G hDn hDe hDo hDu
  go_enter Try.func43, Try.ntmps43
  go_wp2_with fail
  refine (mhier_any HM.out).mono ?_
  rintro en w0 ⟨rfl, hw0⟩
  have hw0' := hw0.symm
  subst hw0'
  go_wp2_with fail
  refine (order_any HM.out.hier).mono ?_
  rintro en w1 ⟨Ao, co, rfl, hco, hfo, hNo, hb1⟩
  rw [Do.out] at hco hNo ⊢
  rw [Hol.out] at hco ⊢
  have HB1 := hid hb1
  have HNo := hid hNo
  clear hb1 hNo hfo
  go_wp2
  have hF : Hid (Fl1 w1 n w1.heap.size (w1.heap.size + 1) (.int .i64 ((0 : Nat) : Int)) ((w1.alloc (.cells (Array.replicate n (.int .i64 0)) 3)).alloc (.cells #[.slice (some ⟨w1.heap.size, 0, none⟩) n n] 25))) := by
    refine ⟨0, Nat.zero_le _, rfl, ?_, ?_, below_alloc' (below_alloc' (Below.refl _ _) _) _⟩
    · rw [fillD_zero]
      exact blk_below (new_blk w1 _ _) (below_alloc' (Below.refl _ _) _)
    · have := new_blk (w1.alloc (.cells (Array.replicate n (.int .i64 0)) 3)) #[.slice (some ⟨w1.heap.size, 0, none⟩) n n] 25
      simpa using this
  obtain ⟨go, hgo⟩ : ∃ go, go = w1.heap.size := ⟨_, rfl⟩
  obtain ⟨b11, hb11⟩ : ∃ b11, b11 = go + 1 := ⟨_, rfl⟩
  rw [← hgo, ← hb11] at hF ⊢
  have Hgo := hid hgo
  have Hb11 := hid hb11
  have hF' := hid hF.out
  clear hF hgo hb11 hmk d1 d2
  go_loopw [40] (fun i wr => Fl1 w1 n go b11 i wr) (fun i _ => n - (intOf i).toNat)
  case atStart => exact hF'.out
  case round =>
    obtain ⟨k, hk, rfl, hbg, hbb, hnx⟩ := hrel
    clear hF'
    have k11 : wr.cell? ⟨b11, 0, none⟩ = some (.slice (some ⟨go, 0, none⟩) n n) := blk_cell' hbb 0
    have l11 := blk_lt' hbb
    have lgo := blk_lt' hbg
    have Hbg := hid hbg
    have Hbb := hid hbb
    have Hnx := hid hnx
    by_cases hlt : k < n
    · have kk : wr.cell? ⟨go, k, none⟩ = some (.int .i64 0) := by
        rw [blk_cell' hbg]
        have h1 := fillD_get n k k
        rw [if_neg (Nat.lt_irrefl k)] at h1
        have h2 := fillD_len n k hk
        have h3 : k < (fillD n k).length := by omega
        simp [List.getD, h3] at h1
        simp [h3, h1, intv]
      have fk := blk_free hbg k
      clear hbg hbb hnx
      go_wp2
      go_roundw
      case rel =>
        have hR : Fl1 w1 n go b11 (.int .i64 ((k + 1 : Nat) : Int)) (wr.setCell ⟨go, k, none⟩ (.int .i64 1152921504606846976)) := by
          refine ⟨k + 1, hlt, rfl, ?_, blk_far' Hbb.out (by have := Hb11.out; simp; omega) _, Hnx.out.setCell (by rw [Hgo.out]; exact Nat.le_refl _) _⟩
          have := blk_set' Hbg.out k (.int .i64 1152921504606846976)
          rw [show (Value.int .i64 1152921504606846976) = intv INF from rfl, map_set_intv, fillD_succ n k hlt] at this
          exact this
        first | exact hR | ((repeat apply Exists.intro); exact ⟨hR, rfl⟩)
      case measure => simp [intOf]; omega
    · have : k = n := by omega
      subst this
      have hF2 : Hid (wr.heap[go]? = some (.cells ((listD k []).map intv).toArray 3 (0, 0))) := by rw [← fillD_all]; exact Hbg.out
      clear hbg hbb hnx Hbg
      go_wp2_with fail
      refine (upward_up (HM.out.below (HB1.out.trans (Hnx.out.mono HB1.out.size))) HG.out s hs hn).mono ?_
      rintro en w5 ⟨Al, cl, l, cost, via, rfl, hcl, hfl, hPl, hend, hb5⟩
      have HB5 := hid (Hnx.out.trans (hb5.mono Hnx.out.size))
      have Hg5 := hid (blk_below hF2.out hb5)
      have Hb5 := hid (blk_below Hbb.out hb5)
      have HPl := hid hPl
      have Hend := hid hend
      have Hfl := hid hfl
      have hgl : Hid (go < wr.heap.size) := lgo
      have hll : l.length ≤ k := by
        have h2 : (l.map fun p => ranks.getD p.1 0).Pairwise (· < ·) := List.pairwise_map.2 hend.sorted
        have h3 := sorted_short h2 (n := k) (fun x hx => by
          obtain ⟨p, hp, rfl⟩ := List.mem_map.1 hx
          exact Hg.out.perm.rlt _ (hend.cl.walk _ _ ((hend.mem p.1 p.2).1 hp)).1)
        simpa using h3
      clear hb5 hPl hend hfl hF2 Hbb k11 l11 lgo
      go_wp2
      go_loopw [52] (fun i wr => Fl2 w5 k go l i wr) (fun i _ => l.length - (intOf i).toNat)
      case atStart => exact ⟨0, Nat.zero_le _, rfl, Hg5.out, grown_refl _ _⟩
      case round =>
        obtain ⟨q, hq, rfl, hbg, hgr⟩ := hrel
        have Hbg := hid hbg
        have Hgr := hid hgr
        have hbb : wr.heap[b11]? = _ := blk_grown Hb5.out hgr (by have := Hb11.out; simp; omega)
        have k11 : wr.cell? ⟨b11, 0, none⟩ = some (.slice (some ⟨go, 0, none⟩) k k) := blk_cell' hbb 0
        have l11 := blk_lt' hbb
        have lgo := blk_lt' hbg
        by_cases hlq : q < l.length
        · obtain ⟨bl, ol, rfl, hbl, cu, cc⟩ := HPl.out.at_ hlq
          obtain ⟨u, c, huc⟩ : ∃ u c, l.getD q (0, 0) = (u, c) := ⟨_, _, rfl⟩
          rw [huc] at cu cc
          dsimp only at cu cc
          have hum : (u, c) ∈ l := by rw [← huc]; exact getD_mem2 hlq
          have hun : u < k := (Hend.out.cl.walk u c ((Hend.out.mem u c).1 hum)).1
          have hne : some bl ≠ some go := by have h1 := Hfl.out _ rfl; have h2 := hgl.out; simp at h1; simp; omega
          replace cu := hgr.cell cu hne
          replace cc := hgr.cell cc hne
          have lbl : bl < wr.heap.size := Nat.lt_of_lt_of_le hbl hgr.size
          have kk : wr.cell? ⟨go, u, none⟩ = some (intv ((listD k (l.take q)).getD u 0)) := by
            rw [blk_cell' hbg]
            have h3 : u < (listD k (l.take q)).length := by rw [listD_len]; exact hun
            simp [List.getD, h3]
          have fk := blk_free hbg u
          have Huc := hid huc
          clear hbg hgr hbb huc hum hne
          go_wp2
          go_roundw
          case rel =>
            have hR : Fl2 w5 k go l (.int .i64 ((q + 1 : Nat) : Int)) ((wr.setCell ⟨go, u, none⟩ (.int .i64 c)).alloc (.cells #[.int .i64 (u : Int), .int .i64 c] 79)) := by
              refine ⟨q + 1, hlq, rfl, ?_, grown_below (Hgr.out.trans (grown_set _ ⟨go, u, none⟩ _)) (below_alloc' (Below.refl _ _) _)⟩
              have := blk_set' Hbg.out u (.int .i64 c)
              rw [show (Value.int .i64 c) = intv c from rfl, map_set_intv] at this
              rw [listD_snoc k l q hlq, Huc.out]
              exact blk_below this (below_alloc' (Below.refl _ _) _)
            first | exact hR | ((repeat apply Exists.intro); exact ⟨hR, rfl⟩)
          case measure => simp [intOf]; omega
        · have : q = l.length := by omega
          subst this
          have hS : wr.heap[go]? = some (.cells ((startD k cost).map intv).toArray 3 (0, 0)) := by rw [← listD_all Hend.out]; rw [List.take_length] at hbg; exact hbg
          have HS := hid hS
          have Hbb := hid hbb
          have hBr : Below w1.heap.size w1 wr := below_grown2 HB5.out hgr (by rw [Hgo.out]; exact Nat.le_refl _) HB5.out.size
          have HBr := hid hBr
          clear hbg hgr hbb Hbg Hgr hS hBr
          go_wp2_with fail
          refine (show Calls _ _ _ _ _ from edges_any ((HM.out.hier.below (HB1.out.trans (HBr.out.mono HB1.out.size))).below (below_alloc' (Below.refl _ _) _))).mono ?_
          rintro en w8 ⟨A16, c16, rfl, hc16, hf16, hN16, hb8⟩
          rw [De.out] at hN16 hc16 ⊢
          have ha : Below wr.heap.size wr w8 := below_then' (below_alloc' (Below.refl _ _) _) hb8
          have Hb15 := hid (blk_below (new_blk wr #[.func (.func 79) #[.pointer (some ⟨m, 0, none⟩)] #[]] 124) hb8)
          have HS8 := hid (blk_below HS.out ha)
          have Hbb8 := hid (blk_below Hbb.out ha)
          have HB8 := hid (HBr.out.trans (ha.mono HBr.out.size))
          have HN16 := hid hN16
          have Hf16 := hid hf16
          have Hl15 : Hid (go < wr.heap.size) := lgo
          obtain ⟨b15, hb15⟩ : ∃ b, b = wr.heap.size := ⟨_, rfl⟩
          have Hl15' : Hid (go < b15) := by rw [hb15]; exact lgo
          have Hf16' : Hid (∀ ad, A16 = some ad → ad.block ≠ go) := fun ad h => by
            have h1 := hf16 ad h
            have h2 := lgo
            simp at h1; omega
          rw [← hb15] at Hb15 ⊢
          clear ha hb8 hN16 hf16 HS Hbb HBr k11 l11 lgo hb15 Hl15 Hf16 hlq
          obtain ⟨b16, hb16⟩ : ∃ b, b = w8.heap.size := ⟨_, rfl⟩
          obtain ⟨W10, hW10⟩ : ∃ W, W = w8.alloc (.cells #[.slice A16 edges.length c16] 22) := ⟨_, rfl⟩
          have hal : Below w8.heap.size w8 W10 := by rw [hW10]; exact below_alloc' (Below.refl _ _) _
          have T15 := hid (blk_below Hb15.out hal)
          have T11 := hid (blk_below Hbb8.out hal)
          have T16 : Hid (W10.heap[b16]? = some (.cells #[.slice A16 edges.length c16] 22 (0, 0))) := by rw [hW10, hb16]; exact new_blk w8 _ _
          have TS := hid (blk_below HS8.out hal)
          have TB := hid (HB8.out.trans (hal.mono HB8.out.size))
          have TN := hid (HN16.out.below hal)
          have n16 : Hid (b16 ≠ go) := by rw [hb16]; exact Nat.ne_of_gt (blk_lt' HS8.out)
          go_wp2
          rw [← hb16, ← hW10]
          clear hal hW10 hb16 Hb15 Hbb8 HS8 HB8 HN16
          go_loopw [72] (fun x wr => Sw3R W10 k (E) ws ranks edges (wDown edges M) s cost go x wr) (fun x _ => k - (intOf x).toNat)
          case atStart => exact ⟨0, 0, _, Nat.zero_le _, rfl, grown_refl _ _, TS.out, SweepAt.start Hend.out Hg.out hn, fun u hu hr => by have := Hg.out.perm.rlt u hu; omega⟩
          case round =>
            obtain ⟨t, j, dd, ht, rfl, hgr, hbg, hsw, hj⟩ := hrel
            have Hsw := hid hsw
            have Hj := hid hj
            have Hgr := hid hgr
            have Hbg := hid hbg
            have HB3 := hid (below_grown2 TB.out hgr (by rw [Hgo.out]; exact Nat.le_refl _) TB.out.size)
            clear hsw hj hbg hgr
            by_cases hlt3 : t < k
            · obtain ⟨r, hr⟩ : ∃ r, k - 1 - t = r := ⟨_, rfl⟩
              obtain ⟨bo, oo, rfl, hbo, cv⟩ := (HNo.out.below HB3.out).at_ (k := k - 1 - t) (by rw [Hol.out]; omega)
              rw [hr] at cv
              obtain ⟨v, hv⟩ : ∃ v, order.getD r 0 = v := ⟨_, rfl⟩
              rw [hv] at cv
              have hvn : v < k := by rw [← hv]; exact Hg.out.perm.olt r (by omega)
              have hvr : ranks.getD v 0 = r := by rw [← hv]; exact Hg.out.perm.ro r (by omega)
              have Hvr := hid hvr
              have Hr := hid hr
              have hr1 : k - t = r + 1 := by omega
              have Hr1 := hid hr1
              clear hr1
              have HMr := hid (HM.out.below (HB1.out.trans (HB3.out.mono HB1.out.size)))
              have hidx : ((k : Int) - 1 - (t : Int)).toNat = r := by omega
              have hi0 : (0 : Int) ≤ (k : Int) - 1 - (t : Int) := by omega
              have hi1 : (k : Int) - 1 - (t : Int) < (k : Int) := by omega
              clear hv hvr hidx hi0 hi1
              go_wp2_with fail
              refine (up_any v HMr.out.hier (by rw [Dn.out]; exact hvn) (by rw [Du.out v hvn]; exact Nat.le_trans (upOf_len _ _) hedl)).mono ?_
              rintro en w12 ⟨Au, cu, rfl, hcu, hfu, hNu, hb12⟩
              rw [Du.out v hvn] at hNu hcu ⊢
              have HNu := hid hNu
              have Hfu := hid hfu
              have Hgr12 := hid (grown_below Hgr.out hb12)
              have Hbg12 := hid (blk_below Hbg.out hb12)
              have Hlg : Hid (go < wr.heap.size) := blk_lt' Hbg.out
              have hsw0 := (show SweepAt k (E) ws ranks edges (wDown edges M) s cost (r + 1) j dd by have := Hsw.out; rw [Hr1.out] at this; exact this).down Hg.out (fun u hu he => Hj.out u hu (by rw [Hr1.out]; exact he))
              have Hsw0 := hid hsw0
              have hul : (upOf edges v).length ≤ edges.length := upOf_len _ _
              obtain ⟨L, hL⟩ : ∃ L, L = upOf edges v := ⟨_, rfl⟩
              have HL := hid hL
              rw [← hL] at HNu hcu hul ⊢
              have Hrk : Hid (r < k) := hid (by omega)
              clear hL hNu hfu hb12 hsw0 Hsw Hj Hbg HB3 Hgr HMr hr cv
              go_wp2
              go_loopw [86] (fun x wr => Sw4R w12 k (E) ws ranks edges (wDown edges M) s cost go r L.length x wr) (fun x _ => L.length - (intOf x).toNat)
              case atStart => exact ⟨0, dd, Nat.zero_le _, rfl, grown_refl _ _, Hbg12.out, Hsw0.out⟩
              case round =>
                obtain ⟨q, d4, hq, rfl, hgr4, hbg4, hsw4⟩ := hrel
                have Hgr4 := hid hgr4
                have Hbg4 := hid hbg4
                have Hsw4 := hid hsw4
                have HgrA := hid (Hgr12.out.trans hgr4)
                clear hsw4 hbg4
                by_cases hlt4 : q < L.length
                · obtain ⟨e, x, he, hel, hev, hmm, hix, hxn⟩ := upOf_get Hg.out (v := v) (j := q) (by rw [← HL.out]; exact hlt4)
                  obtain ⟨bu, ou, rfl, hbu, ce⟩ := (HNu.out.grown hgr4 (fun ad h h2 => by have h3 := Hfu.out ad h; have h4 := Hlg.out; simp at h2; omega)).at_ hlt4
                  rw [HL.out, he] at ce
                  have HMq := hid (HM.out.below (HB1.out.trans ((below_grown2 TB.out HgrA.out (by rw [Hgo.out]; exact Nat.le_refl _) TB.out.size).mono HB1.out.size)))
                  have b15' : wr.heap[b15]? = _ := blk_grown T15.out HgrA.out (by have := Hl15'.out; simp; omega)
                  have b11' : wr.heap[b11]? = _ := blk_grown T11.out HgrA.out (by have := Hb11.out; simp; omega)
                  have b16' : wr.heap[b16]? = _ := blk_grown T16.out HgrA.out (by have := n16.out; simpa using this)
                  have hA16 : Arcs wr A16 edges := TN.out.grown HgrA.out (fun ad h h2 => Hf16'.out ad h (by simpa using h2))
                  have hdl : d4.length = M.h.n := by rw [Dn.out]; exact Hsw4.out.len
                  have HC := hid (relax_down HMq.out (fun i => (HG.out.rngD HMq.out.ok i).2) v e x (by rw [De.out]; exact hel) (by rw [De.out, hev]) d4 hdl (by rw [Dn.out]; exact hvn) (by rw [Dn.out]; exact hxn) (fun i hi => Hsw4.out.rng i (by rw [← Dn.out]; exact hi)) b15 b11 b16 go A16 c16 k b15' (by rw [Dn.out]; exact b11') (by rw [De.out]; exact b16') Hbg4.out (by rw [De.out]; exact hA16))
                  have Hstep := hid (Hsw4.out.stepR Hg.out Hw.out hvn Hvr.out (show edges.getD ((upOf edges v).getD q 0) (0, 0) = (v, x) by rw [he, hev]) hmm)
                  have Hix : Hid (wDown edges M v x = M.down.getD e 0) := by unfold wDown; rw [hix]; exact rfl
                  rw [Hix.out] at Hstep
                  clear he hev hmm hix hgr4 b15' b11' b16' hA16 hdl
                  go_wp2_with fail
                  refine HC.out.mono ?_
                  rintro en w13 ⟨rfl, hg13, hb13⟩
                  have Hg13 := hid (Hgr4.out.trans hg13)
                  have Hb13 := hid hb13
                  clear hg13 hb13
                  go_wp2
                  go_roundw
                  case rel =>
                    have hR : Sw4R w12 k (E) ws ranks edges (wDown edges M) s cost go r L.length (.int .i64 ((q + 1 : Nat) : Int)) w13 := ⟨q + 1, _, hlt4, rfl, Hg13.out, Hb13.out, Hstep.out⟩
                    first | exact hR | ((repeat apply Exists.intro); exact ⟨hR, rfl⟩)
                  case measure => simp [intOf]; omega
                · have hqe : q = (upOf edges v).length := by rw [← HL.out]; omega
                  have HQ := hid hqe
                  clear hqe hgr4
                  go_wp2
                  go_roundw
                  case rel =>
                    have hR : Sw3R W10 k (E) ws ranks edges (wDown edges M) s cost go (.int .i64 ((t + 1 : Nat) : Int)) wr :=
                      ⟨t + 1, q, d4, hlt3, rfl, HgrA.out, Hbg4.out, by have h1 := Hr1.out; rw [show k - (t + 1) = r by omega]; exact Hsw4.out, fun u hu hru => by
                        have h1 := Hr1.out
                        rw [show k - (t + 1) = r by omega] at hru
                        have : u = v := Hg.out.rank_inj hu hvn (by rw [hru, Hvr.out])
                        rw [this]; exact HQ.out⟩
                    first | exact hR | ((repeat apply Exists.intro); exact ⟨hR, rfl⟩)
                  case measure => simp [intOf]; omega
            · have : t = k := by omega
              subst this
              have T11r := blk_grown T11.out Hgr.out (by have := Hb11.out; simp; omega)
              have k11 : wr.cell? ⟨b11, 0, none⟩ = some (.slice (some ⟨go, 0, none⟩) t t) := blk_cell' T11r 0
              have l11 := blk_lt' T11r
              have hdl := Hsw.out.len
              have HF := hid ((show SweepAt t (E) ws ranks edges (wDown edges M) s cost 0 j dd by have := Hsw.out; rw [Nat.sub_self] at this; exact this).dist Hg.out Hw.out Hend.out (fun u hu hr => Hj.out u hu (by rw [Nat.sub_self]; exact hr)) hs)
              have Hdl := hid hdl
              have HBf := hid (HB1.out.trans (HB3.out.mono HB1.out.size))
              have HI := hid (blk_ints Hbg.out)
              clear T11r hdl
              go_wp2
              go_ret2
              refine ⟨dd, some ⟨go, 0, none⟩, t, ret_dist Hdl.out, HF.out, Nat.le_of_eq Hdl.out, fun ad h => by cases h; show w.heap.size ≤ go; rw [Hgo.out]; exact HB1.out.size, HI.out, HBf.out⟩
set_option maxRecDepth 100000 in
set_option maxHeartbeats 8000000 in
theorem all_to {n : Nat} {E : List (Nat × Nat)} {ws : List Int} {order ranks : List Nat} {edges : List (Nat × Nat)} {w : World} {m h : Nat} {M : MD} (H : MetAt w m h M) (G : Good n E ws order ranks edges M) (s : Nat) (hs : s < n) (hn : n ≤ 29) :
    Calls Try.prog 43 #[.pointer (some ⟨m, 0, none⟩), .int .i64 (s : Int), .bool true] w (RetDist w (IsDist n (swapE E) ws s)) := by
  have HM := hid H
  have Hg := hid (G.hg.swap)
  have Hw := hid (G.chw.swap)
  have HG := hid G
  have hDn : M.h.n = n := by rw [G.h_eq]; rfl
  have hDe : M.h.edges = edges := by rw [G.h_eq]; rfl
  have hDo : M.h.order = order := by rw [G.h_eq]; rfl
  have hDu : ∀ v, v < n → M.h.up.getD v [] = upOf edges v := fun v hv => by rw [G.h_eq]; exact up_getD edges v hv
  have hedl : edges.length ≤ 1099511627776 := by have := H.ok.h_ok.edges_len; rw [hDe] at this; exact this
  have Dn := hid hDn
  have De := hid hDe
  have Do := hid hDo
  have Du := hid hDu
  have Hol : Hid (order.length = n) := G.hg.perm.olen
  have hmk := run_make_ints n (by omega)
  have d1 : decide ((s : Int) < 0) = false := decide_eq_false (by omega)
  have d2 : decide (n ≤ s) = false := decide_eq_false (by omega)
  clear H G hDn hDe hDo hDu
  go_enter Try.func43, Try.ntmps43
  go_wp2_with fail
  refine (mhier_any HM.out).mono ?_
  rintro en w0 ⟨rfl, hw0⟩
  have hw0' := hw0.symm
  subst hw0'
  go_wp2_with fail
  refine (order_any HM.out.hier).mono ?_
  rintro en w1 ⟨Ao, co, rfl, hco, hfo, hNo, hb1⟩
  rw [Do.out] at hco hNo ⊢
  rw [Hol.out] at hco ⊢
  have HB1 := hid hb1
  have HNo := hid hNo
  clear hb1 hNo hfo
  go_wp2
  have hF : Hid (Fl1 w1 n w1.heap.size (w1.heap.size + 1) (.int .i64 ((0 : Nat) : Int)) ((w1.alloc (.cells (Array.replicate n (.int .i64 0)) 3)).alloc (.cells #[.slice (some ⟨w1.heap.size, 0, none⟩) n n] 25))) := by
    refine ⟨0, Nat.zero_le _, rfl, ?_, ?_, below_alloc' (below_alloc' (Below.refl _ _) _) _⟩
    · rw [fillD_zero]
      exact blk_below (new_blk w1 _ _) (below_alloc' (Below.refl _ _) _)
    · have := new_blk (w1.alloc (.cells (Array.replicate n (.int .i64 0)) 3)) #[.slice (some ⟨w1.heap.size, 0, none⟩) n n] 25
      simpa using this
  obtain ⟨go, hgo⟩ : ∃ go, go = w1.heap.size := ⟨_, rfl⟩
  obtain ⟨b11, hb11⟩ : ∃ b11, b11 = go + 1 := ⟨_, rfl⟩
  rw [← hgo, ← hb11] at hF ⊢
  have Hgo := hid hgo
  have Hb11 := hid hb11
  have hF' := hid hF.out
  clear hF hgo hb11 hmk d1 d2
  go_loopw [40] (fun i wr => Fl1 w1 n go b11 i wr) (fun i _ => n - (intOf i).toNat)
  case atStart => exact hF'.out
  case round =>
    obtain ⟨k, hk, rfl, hbg, hbb, hnx⟩ := hrel
    clear hF'
    have k11 : wr.cell? ⟨b11, 0, none⟩ = some (.slice (some ⟨go, 0, none⟩) n n) := blk_cell' hbb 0
    have l11 := blk_lt' hbb
    have lgo := blk_lt' hbg
    have Hbg := hid hbg
    have Hbb := hid hbb
    have Hnx := hid hnx
    by_cases hlt : k < n
    · have kk : wr.cell? ⟨go, k, none⟩ = some (.int .i64 0) := by
        rw [blk_cell' hbg]
        have h1 := fillD_get n k k
        rw [if_neg (Nat.lt_irrefl k)] at h1
        have h2 := fillD_len n k hk
        have h3 : k < (fillD n k).length := by omega
        simp [List.getD, h3] at h1
        simp [h3, h1, intv]
      have fk := blk_free hbg k
      clear hbg hbb hnx
      go_wp2
      go_roundw
      case rel =>
        have hR : Fl1 w1 n go b11 (.int .i64 ((k + 1 : Nat) : Int)) (wr.setCell ⟨go, k, none⟩ (.int .i64 1152921504606846976)) := by
          refine ⟨k + 1, hlt, rfl, ?_, blk_far' Hbb.out (by have := Hb11.out; simp; omega) _, Hnx.out.setCell (by rw [Hgo.out]; exact Nat.le_refl _) _⟩
          have := blk_set' Hbg.out k (.int .i64 1152921504606846976)
          rw [show (Value.int .i64 1152921504606846976) = intv INF from rfl, map_set_intv, fillD_succ n k hlt] at this
          exact this
        first | exact hR | ((repeat apply Exists.intro); exact ⟨hR, rfl⟩)
      case measure => simp [intOf]; omega
    · have : k = n := by omega
      subst this
      have hF2 : Hid (wr.heap[go]? = some (.cells ((listD k []).map intv).toArray 3 (0, 0))) := by rw [← fillD_all]; exact Hbg.out
      clear hbg hbb hnx Hbg
      go_wp2_with fail
      refine (upward_down (HM.out.below (HB1.out.trans (Hnx.out.mono HB1.out.size))) HG.out s hs hn).mono ?_
      rintro en w5 ⟨Al, cl, l, cost, via, rfl, hcl, hfl, hPl, hend, hb5⟩
      have HB5 := hid (Hnx.out.trans (hb5.mono Hnx.out.size))
      have Hg5 := hid (blk_below hF2.out hb5)
      have Hb5 := hid (blk_below Hbb.out hb5)
      have HPl := hid hPl
      have Hend := hid hend
      have Hfl := hid hfl
      have hgl : Hid (go < wr.heap.size) := lgo
      have hll : l.length ≤ k := by
        have h2 : (l.map fun p => ranks.getD p.1 0).Pairwise (· < ·) := List.pairwise_map.2 hend.sorted
        have h3 := sorted_short h2 (n := k) (fun x hx => by
          obtain ⟨p, hp, rfl⟩ := List.mem_map.1 hx
          exact Hg.out.perm.rlt _ (hend.cl.walk _ _ ((hend.mem p.1 p.2).1 hp)).1)
        simpa using h3
      clear hb5 hPl hend hfl hF2 Hbb k11 l11 lgo
      go_wp2
      go_loopw [52] (fun i wr => Fl2 w5 k go l i wr) (fun i _ => l.length - (intOf i).toNat)
      case atStart => exact ⟨0, Nat.zero_le _, rfl, Hg5.out, grown_refl _ _⟩
      case round =>
        obtain ⟨q, hq, rfl, hbg, hgr⟩ := hrel
        have Hbg := hid hbg
        have Hgr := hid hgr
        have hbb : wr.heap[b11]? = _ := blk_grown Hb5.out hgr (by have := Hb11.out; simp; omega)
        have k11 : wr.cell? ⟨b11, 0, none⟩ = some (.slice (some ⟨go, 0, none⟩) k k) := blk_cell' hbb 0
        have l11 := blk_lt' hbb
        have lgo := blk_lt' hbg
        by_cases hlq : q < l.length
        · obtain ⟨bl, ol, rfl, hbl, cu, cc⟩ := HPl.out.at_ hlq
          obtain ⟨u, c, huc⟩ : ∃ u c, l.getD q (0, 0) = (u, c) := ⟨_, _, rfl⟩
          rw [huc] at cu cc
          dsimp only at cu cc
          have hum : (u, c) ∈ l := by rw [← huc]; exact getD_mem2 hlq
          have hun : u < k := (Hend.out.cl.walk u c ((Hend.out.mem u c).1 hum)).1
          have hne : some bl ≠ some go := by have h1 := Hfl.out _ rfl; have h2 := hgl.out; simp at h1; simp; omega
          replace cu := hgr.cell cu hne
          replace cc := hgr.cell cc hne
          have lbl : bl < wr.heap.size := Nat.lt_of_lt_of_le hbl hgr.size
          have kk : wr.cell? ⟨go, u, none⟩ = some (intv ((listD k (l.take q)).getD u 0)) := by
            rw [blk_cell' hbg]
            have h3 : u < (listD k (l.take q)).length := by rw [listD_len]; exact hun
            simp [List.getD, h3]
          have fk := blk_free hbg u
          have Huc := hid huc
          clear hbg hgr hbb huc hum hne
          go_wp2
          go_roundw
          case rel =>
            have hR : Fl2 w5 k go l (.int .i64 ((q + 1 : Nat) : Int)) ((wr.setCell ⟨go, u, none⟩ (.int .i64 c)).alloc (.cells #[.int .i64 (u : Int), .int .i64 c] 79)) := by
              refine ⟨q + 1, hlq, rfl, ?_, grown_below (Hgr.out.trans (grown_set _ ⟨go, u, none⟩ _)) (below_alloc' (Below.refl _ _) _)⟩
              have := blk_set' Hbg.out u (.int .i64 c)
              rw [show (Value.int .i64 c) = intv c from rfl, map_set_intv] at this
              rw [listD_snoc k l q hlq, Huc.out]
              exact blk_below this (below_alloc' (Below.refl _ _) _)
            first | exact hR | ((repeat apply Exists.intro); exact ⟨hR, rfl⟩)
          case measure => simp [intOf]; omega
        · have : q = l.length := by omega
          subst this
          have hS : wr.heap[go]? = some (.cells ((startD k cost).map intv).toArray 3 (0, 0)) := by rw [← listD_all Hend.out]; rw [List.take_length] at hbg; exact hbg
          have HS := hid hS
          have Hbb := hid hbb
          have hBr : Below w1.heap.size w1 wr := below_grown2 HB5.out hgr (by rw [Hgo.out]; exact Nat.le_refl _) HB5.out.size
          have HBr := hid hBr
          clear hbg hgr hbb Hbg Hgr hS hBr
          go_wp2_with fail
          refine (show Calls _ _ _ _ _ from edges_any ((HM.out.hier.below (HB1.out.trans (HBr.out.mono HB1.out.size))).below (below_alloc' (Below.refl _ _) _))).mono ?_
          rintro en w8 ⟨A16, c16, rfl, hc16, hf16, hN16, hb8⟩
          rw [De.out] at hN16 hc16 ⊢
          have ha : Below wr.heap.size wr w8 := below_then' (below_alloc' (Below.refl _ _) _) hb8
          have Hb15 := hid (blk_below (new_blk wr #[.func (.func 80) #[.pointer (some ⟨m, 0, none⟩)] #[]] 124) hb8)
          have HS8 := hid (blk_below HS.out ha)
          have Hbb8 := hid (blk_below Hbb.out ha)
          have HB8 := hid (HBr.out.trans (ha.mono HBr.out.size))
          have HN16 := hid hN16
          have Hf16 := hid hf16
          have Hl15 : Hid (go < wr.heap.size) := lgo
          obtain ⟨b15, hb15⟩ : ∃ b, b = wr.heap.size := ⟨_, rfl⟩
          have Hl15' : Hid (go < b15) := by rw [hb15]; exact lgo
          have Hf16' : Hid (∀ ad, A16 = some ad → ad.block ≠ go) := fun ad h => by
            have h1 := hf16 ad h
            have h2 := lgo
            simp at h1; omega
          rw [← hb15] at Hb15 ⊢
          clear ha hb8 hN16 hf16 HS Hbb HBr k11 l11 lgo hb15 Hl15 Hf16 hlq
          obtain ⟨b16, hb16⟩ : ∃ b, b = w8.heap.size := ⟨_, rfl⟩
          obtain ⟨W10, hW10⟩ : ∃ W, W = w8.alloc (.cells #[.slice A16 edges.length c16] 22) := ⟨_, rfl⟩
          have hal : Below w8.heap.size w8 W10 := by rw [hW10]; exact below_alloc' (Below.refl _ _) _
          have T15 := hid (blk_below Hb15.out hal)
          have T11 := hid (blk_below Hbb8.out hal)
          have T16 : Hid (W10.heap[b16]? = some (.cells #[.slice A16 edges.length c16] 22 (0, 0))) := by rw [hW10, hb16]; exact new_blk w8 _ _
          have TS := hid (blk_below HS8.out hal)
          have TB := hid (HB8.out.trans (hal.mono HB8.out.size))
          have TN := hid (HN16.out.below hal)
          have n16 : Hid (b16 ≠ go) := by rw [hb16]; exact Nat.ne_of_gt (blk_lt' HS8.out)
          go_wp2
          rw [← hb16, ← hW10]
          clear hal hW10 hb16 Hb15 Hbb8 HS8 HB8 HN16
          go_loopw [72] (fun x wr => Sw3R W10 k (swapE E) ws ranks edges (wUp edges M) s cost go x wr) (fun x _ => k - (intOf x).toNat)
          case atStart => exact ⟨0, 0, _, Nat.zero_le _, rfl, grown_refl _ _, TS.out, SweepAt.start Hend.out Hg.out hn, fun u hu hr => by have := Hg.out.perm.rlt u hu; omega⟩
          case round =>
            obtain ⟨t, j, dd, ht, rfl, hgr, hbg, hsw, hj⟩ := hrel
            have Hsw := hid hsw
            have Hj := hid hj
            have Hgr := hid hgr
            have Hbg := hid hbg
            have HB3 := hid (below_grown2 TB.out hgr (by rw [Hgo.out]; exact Nat.le_refl _) TB.out.size)
            clear hsw hj hbg hgr
            by_cases hlt3 : t < k
            · obtain ⟨r, hr⟩ : ∃ r, k - 1 - t = r := ⟨_, rfl⟩
              obtain ⟨bo, oo, rfl, hbo, cv⟩ := (HNo.out.below HB3.out).at_ (k := k - 1 - t) (by rw [Hol.out]; omega)
              rw [hr] at cv
              obtain ⟨v, hv⟩ : ∃ v, order.getD r 0 = v := ⟨_, rfl⟩
              rw [hv] at cv
              have hvn : v < k := by rw [← hv]; exact Hg.out.perm.olt r (by omega)
              have hvr : ranks.getD v 0 = r := by rw [← hv]; exact Hg.out.perm.ro r (by omega)
              have Hvr := hid hvr
              have Hr := hid hr
              have hr1 : k - t = r + 1 := by omega
              have Hr1 := hid hr1
              clear hr1
              have HMr := hid (HM.out.below (HB1.out.trans (HB3.out.mono HB1.out.size)))
              have hidx : ((k : Int) - 1 - (t : Int)).toNat = r := by omega
              have hi0 : (0 : Int) ≤ (k : Int) - 1 - (t : Int) := by omega
              have hi1 : (k : Int) - 1 - (t : Int) < (k : Int) := by omega
              clear hv hvr hidx hi0 hi1
              go_wp2_with fail
              refine (up_any v HMr.out.hier (by rw [Dn.out]; exact hvn) (by rw [Du.out v hvn]; exact Nat.le_trans (upOf_len _ _) hedl)).mono ?_
              rintro en w12 ⟨Au, cu, rfl, hcu, hfu, hNu, hb12⟩
              rw [Du.out v hvn] at hNu hcu ⊢
              have HNu := hid hNu
              have Hfu := hid hfu
              have Hgr12 := hid (grown_below Hgr.out hb12)
              have Hbg12 := hid (blk_below Hbg.out hb12)
              have Hlg : Hid (go < wr.heap.size) := blk_lt' Hbg.out
              have hsw0 := (show SweepAt k (swapE E) ws ranks edges (wUp edges M) s cost (r + 1) j dd by have := Hsw.out; rw [Hr1.out] at this; exact this).down Hg.out (fun u hu he => Hj.out u hu (by rw [Hr1.out]; exact he))
              have Hsw0 := hid hsw0
              have hul : (upOf edges v).length ≤ edges.length := upOf_len _ _
              obtain ⟨L, hL⟩ : ∃ L, L = upOf edges v := ⟨_, rfl⟩
              have HL := hid hL
              rw [← hL] at HNu hcu hul ⊢
              have Hrk : Hid (r < k) := hid (by omega)
              clear hL hNu hfu hb12 hsw0 Hsw Hj Hbg HB3 Hgr HMr hr cv
              go_wp2
              go_loopw [86] (fun x wr => Sw4R w12 k (swapE E) ws ranks edges (wUp edges M) s cost go r L.length x wr) (fun x _ => L.length - (intOf x).toNat)
              case atStart => exact ⟨0, dd, Nat.zero_le _, rfl, grown_refl _ _, Hbg12.out, Hsw0.out⟩
              case round =>
                obtain ⟨q, d4, hq, rfl, hgr4, hbg4, hsw4⟩ := hrel
                have Hgr4 := hid hgr4
                have Hbg4 := hid hbg4
                have Hsw4 := hid hsw4
                have HgrA := hid (Hgr12.out.trans hgr4)
                clear hsw4 hbg4
                by_cases hlt4 : q < L.length
                · obtain ⟨e, x, he, hel, hev, hmm, hix, hxn⟩ := upOf_get Hg.out (v := v) (j := q) (by rw [← HL.out]; exact hlt4)
                  obtain ⟨bu, ou, rfl, hbu, ce⟩ := (HNu.out.grown hgr4 (fun ad h h2 => by have h3 := Hfu.out ad h; have h4 := Hlg.out; simp at h2; omega)).at_ hlt4
                  rw [HL.out, he] at ce
                  have HMq := hid (HM.out.below (HB1.out.trans ((below_grown2 TB.out HgrA.out (by rw [Hgo.out]; exact Nat.le_refl _) TB.out.size).mono HB1.out.size)))
                  have b15' : wr.heap[b15]? = _ := blk_grown T15.out HgrA.out (by have := Hl15'.out; simp; omega)
                  have b11' : wr.heap[b11]? = _ := blk_grown T11.out HgrA.out (by have := Hb11.out; simp; omega)
                  have b16' : wr.heap[b16]? = _ := blk_grown T16.out HgrA.out (by have := n16.out; simpa using this)
                  have hA16 : Arcs wr A16 edges := TN.out.grown HgrA.out (fun ad h h2 => Hf16'.out ad h (by simpa using h2))
                  have hdl : d4.length = M.h.n := by rw [Dn.out]; exact Hsw4.out.len
                  have HC := hid (relax_up HMq.out (fun i => (HG.out.rngD HMq.out.ok i).1) v e x (by rw [De.out]; exact hel) (by rw [De.out, hev]) d4 hdl (by rw [Dn.out]; exact hvn) (by rw [Dn.out]; exact hxn) (fun i hi => Hsw4.out.rng i (by rw [← Dn.out]; exact hi)) b15 b11 b16 go A16 c16 k b15' (by rw [Dn.out]; exact b11') (by rw [De.out]; exact b16') Hbg4.out (by rw [De.out]; exact hA16))
                  have Hstep := hid (Hsw4.out.stepR Hg.out Hw.out hvn Hvr.out (show edges.getD ((upOf edges v).getD q 0) (0, 0) = (v, x) by rw [he, hev]) hmm)
                  have Hix : Hid (wUp edges M v x = M.up.getD e 0) := by unfold wUp; rw [hix]; exact rfl
                  rw [Hix.out] at Hstep
                  clear he hev hmm hix hgr4 b15' b11' b16' hA16 hdl
                  go_wp2_with fail
                  refine HC.out.mono ?_
                  rintro en w13 ⟨rfl, hg13, hb13⟩
                  have Hg13 := hid (Hgr4.out.trans hg13)
                  have Hb13 := hid hb13
                  clear hg13 hb13
                  go_wp2
                  go_roundw
                  case rel =>
                    have hR : Sw4R w12 k (swapE E) ws ranks edges (wUp edges M) s cost go r L.length (.int .i64 ((q + 1 : Nat) : Int)) w13 := ⟨q + 1, _, hlt4, rfl, Hg13.out, Hb13.out, Hstep.out⟩
                    first | exact hR | ((repeat apply Exists.intro); exact ⟨hR, rfl⟩)
                  case measure => simp [intOf]; omega
                · have hqe : q = (upOf edges v).length := by rw [← HL.out]; omega
                  have HQ := hid hqe
                  clear hqe hgr4
                  go_wp2
                  go_roundw
                  case rel =>
                    have hR : Sw3R W10 k (swapE E) ws ranks edges (wUp edges M) s cost go (.int .i64 ((t + 1 : Nat) : Int)) wr :=
                      ⟨t + 1, q, d4, hlt3, rfl, HgrA.out, Hbg4.out, by have h1 := Hr1.out; rw [show k - (t + 1) = r by omega]; exact Hsw4.out, fun u hu hru => by
                        have h1 := Hr1.out
                        rw [show k - (t + 1) = r by omega] at hru
                        have : u = v := Hg.out.rank_inj hu hvn (by rw [hru, Hvr.out])
                        rw [this]; exact HQ.out⟩
                    first | exact hR | ((repeat apply Exists.intro); exact ⟨hR, rfl⟩)
                  case measure => simp [intOf]; omega
            · have : t = k := by omega
              subst this
              have T11r := blk_grown T11.out Hgr.out (by have := Hb11.out; simp; omega)
              have k11 : wr.cell? ⟨b11, 0, none⟩ = some (.slice (some ⟨go, 0, none⟩) t t) := blk_cell' T11r 0
              have l11 := blk_lt' T11r
              have hdl := Hsw.out.len
              have HF := hid ((show SweepAt t (swapE E) ws ranks edges (wUp edges M) s cost 0 j dd by have := Hsw.out; rw [Nat.sub_self] at this; exact this).dist Hg.out Hw.out Hend.out (fun u hu hr => Hj.out u hu (by rw [Nat.sub_self]; exact hr)) hs)
              have Hdl := hid hdl
              have HBf := hid (HB1.out.trans (HB3.out.mono HB1.out.size))
              have HI := hid (blk_ints Hbg.out)
              clear T11r hdl
              go_wp2
              go_ret2
              refine ⟨dd, some ⟨go, 0, none⟩, t, ret_dist Hdl.out, HF.out, Nat.le_of_eq Hdl.out, fun ad h => by cases h; show w.heap.size ≤ go; rw [Hgo.out]; exact HB1.out.size, HI.out, HBf.out⟩

end Go.Proofs.Ytpfjannhggcmiaa
