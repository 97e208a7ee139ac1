/- Contracts of the checks of graphs and weights (references and program), over any integers. -/
import Derived.Test.YtpfjannhggcmiaaLower
namespace Go.Proofs.Ytpfjannhggcmiaa
open Go.RowKit Go.Maps

/-- Arcs of any integers. -/
def ArcsI (w : World) (A : Option Addr) (xs : List (Int × Int)) : Prop :=
  xs.length = 0 ∨ ∃ b o, A = some ⟨b, o, none⟩ ∧ b < w.heap.size ∧ ∀ i, i < xs.length → w.cell? ⟨b, o + i * 2, none⟩ = some (.int .i64 (xs.getD i (0, 0)).1) ∧ w.cell? ⟨b, o + i * 2 + 1, none⟩ = some (.int .i64 (xs.getD i (0, 0)).2)
theorem ArcsI.below {w W : World} {A : Option Addr} {xs : List (Int × Int)} (h : ArcsI w A xs) (hb : Below w.heap.size w W) : ArcsI W A xs := by
  rcases h with h | ⟨b, o, hA, hlt, hc⟩
  · exact .inl h
  · exact .inr ⟨b, o, hA, Nat.lt_of_lt_of_le hlt hb.size, fun i hi => ⟨(hb.cell (p := ⟨b, o + i * 2, none⟩) hlt).trans (hc i hi).1, (hb.cell (p := ⟨b, o + i * 2 + 1, none⟩) hlt).trans (hc i hi).2⟩⟩
theorem ArcsI.at_ {w : World} {A : Option Addr} {xs : List (Int × Int)} (h : ArcsI w A xs) {k : Nat} (hk : k < xs.length) :
    ∃ b o, A = some ⟨b, o, none⟩ ∧ b < w.heap.size ∧ w.cell? ⟨b, o + k * 2, none⟩ = some (.int .i64 (xs.getD k (0, 0)).1) ∧ w.cell? ⟨b, o + k * 2 + 1, none⟩ = some (.int .i64 (xs.getD k (0, 0)).2) := by
  rcases h with h | ⟨b, o, hA, hb, hc⟩
  · omega
  · exact ⟨b, o, hA, hb, (hc k hk).1, (hc k hk).2⟩
def toI (xs : List (Nat × Nat)) : List (Int × Int) := xs.map fun p => ((p.1 : Int), (p.2 : Int))
theorem toI_getD (xs : List (Nat × Nat)) (k : Nat) : (toI xs).getD k (0, 0) = (((xs.getD k (0, 0)).1 : Int), ((xs.getD k (0, 0)).2 : Int)) := by
  unfold toI
  by_cases h : k < xs.length
  · simp [List.getD, h]
  · simp [List.getD, h]
theorem toI_length (xs : List (Nat × Nat)) : (toI xs).length = xs.length := by simp [toI]
theorem arcs_toI {w : World} {A : Option Addr} {xs : List (Nat × Nat)} : Arcs w A xs ↔ ArcsI w A (toI xs) := by
  unfold Arcs ArcsI
  simp only [toI_length, toI_getD]

def ArcOk (n : Int) (a : Int × Int) : Prop := 0 ≤ a.1 ∧ a.1 < n ∧ 0 ≤ a.2 ∧ a.2 < n
def ArcsOk (n : Int) (xs : List (Int × Int)) : Prop := ∀ i, i < xs.length → ArcOk n (xs.getD i (0, 0))

/-- Nought is returned just if P; nothing that was there has changed. -/
def RetZero (w : World) (P : Prop) (en : Ending) (w' : World) : Prop := ∃ r : Int, en = .returned (.int .i64 r) ∧ (r = 0 ↔ P) ∧ Below w.heap.size w w'

/-- After k arcs without a fault. -/
def CkRel (w : World) (n : Int) (xs : List (Int × Int)) (A : Option Addr) (c : Nat) (i : Value) (wr : World) : Prop :=
  ∃ k : Nat, k ≤ xs.length ∧ i = .int .i64 k ∧ (∀ j, j < k → ArcOk n (xs.getD j (0, 0))) ∧ wr.heap[w.heap.size]? = some (.cells #[.int .i64 n, .slice A xs.length c] 24 (0, 0)) ∧ Below w.heap.size w wr
theorem CkRel.mk {w : World} {n : Int} {xs : List (Int × Int)} {A : Option Addr} {c : Nat} {i : Value} {wr : World} (k : Nat) (h1 : k ≤ xs.length) (h2 : i = .int .i64 k) (h3 : ∀ j, j < k → ArcOk n (xs.getD j (0, 0)))
    (h4 : wr.heap[w.heap.size]? = some (.cells #[.int .i64 n, .slice A xs.length c] 24 (0, 0))) (h5 : Below w.heap.size w wr) : CkRel w n xs A c i wr := ⟨k, h1, h2, h3, h4, h5⟩
theorem below_old {w wr W : World} (h : Below w.heap.size w wr) (k : Below wr.heap.size wr W) : Below w.heap.size w W := below_then' h k

set_option maxRecDepth 100000 in
set_option maxHeartbeats 4000000 in
theorem ref37check (n : Int) (A : Option Addr) (xs : List (Int × Int)) (c : Nat) (w : World) (hr : ArcsI w A xs) (hn0 : 0 ≤ n) (hn : n ≤ 1048576) (hl : xs.length ≤ 4194304) :
    Calls Try.prog 49 #[.agg #[.int .i64 n, .slice A xs.length c]] w (RetZero w (ArcsOk n xs)) := by
  have d1 : decide (n < 0) = false := decide_eq_false (by omega)
  have d2 : decide (1048576 < n) = false := decide_eq_false (by omega)
  have d3 : decide (4194304 < (xs.length : Int)) = false := decide_eq_false (by omega)
  have d4 : decide (4194304 < xs.length) = false := decide_eq_false (by omega)
  go_enter Try.func49, Try.ntmps49
  go_wp2
  go_loopw [3] (fun i wr => CkRel w n xs A c i wr) (fun i _ => xs.length - (intOf i).toNat)
  case atStart => exact CkRel.mk 0 (Nat.zero_le _) rfl (fun j hj => by omega) (new_blk w _ _) (below_alloc' (Below.refl _ _) _)
  case round =>
    obtain ⟨k, hk, rfl, hg, hbox, hnx⟩ := hrel
    have b0 : wr.cell? ⟨w.heap.size, 0, none⟩ = some (.int .i64 n) := blk_cell' hbox 0
    have b1 : wr.cell? ⟨w.heap.size, 1, none⟩ = some (.slice A xs.length c) := blk_cell' hbox 1
    have bl := blk_lt' hbox
    by_cases hlt : k < xs.length
    · obtain ⟨b, o, rfl, hb, cx0, cx1⟩ := hr.at_ hlt
      obtain ⟨x, y, hxy⟩ : ∃ x y, xs.getD k (0, 0) = (x, y) := ⟨_, _, rfl⟩
      rw [hxy] at cx0 cx1
      replace cx0 := cell_later hnx cx0
      replace cx1 := cell_later hnx cx1
      have hbw : b < wr.heap.size := Nat.lt_of_lt_of_le hb hnx.size
      have Hxy := hid hxy
      have Hbox := hid hbox
      have Hnx := hid hnx
      have Hg := hid hg
      have Hr := hid hr
      clear hxy hbox hnx hg hr
      by_cases hok : ArcOk n (x, y)
      · have Hok := hid hok
        obtain ⟨o1, o2, o3, o4⟩ := hok
        dsimp only at o1 o2 o3 o4
        go_wp2
        go_roundw
        case rel =>
          have hR : CkRel w n xs (some ⟨b, o, none⟩) c (.int .i64 ((k + 1 : Nat) : Int)) (wr.alloc (.cells #[.int .i64 x, .int .i64 y] 48)) :=
            CkRel.mk (k + 1) (by omega) rfl (fun j hj => by
              by_cases e : j = k
              · rw [e, Hxy.out]; exact Hok.out
              · exact Hg.out j (by omega)) (blk_below Hbox.out (below_alloc' (Below.refl _ _) _)) (below_alloc' Hnx.out _)
          first | exact hR | ((repeat apply Exists.intro); exact ⟨hR, rfl⟩)
        case measure => simp [intOf]; omega
      · have hbad : Hid (¬ ArcsOk n xs) := fun h => hok (by have := h k hlt; rwa [Hxy.out] at this)
        have hcase : x < 0 ∨ (0 ≤ x ∧ n ≤ x) ∨ (0 ≤ x ∧ x < n ∧ y < 0) ∨ (0 ≤ x ∧ x < n ∧ 0 ≤ y ∧ n ≤ y) := by
          unfold ArcOk at hok; simp only at hok; omega
        clear hok
        rcases hcase with h1 | ⟨h1, h2⟩ | ⟨h1, h2, h3⟩ | ⟨h1, h2, h3, h4⟩
        all_goals
          go_wp2
          go_ret
          exact ⟨2, rfl, ⟨fun h => by omega, fun h => absurd h hbad.out⟩, below_alloc' Hnx.out _⟩
    · have hall : Hid (ArcsOk n xs) := fun i hi => hg i (by omega)
      clear hg
      go_wp2
      go_ret
      exact ⟨0, rfl, ⟨fun _ => hall.out, fun _ => rfl⟩, hnx⟩

set_option maxRecDepth 100000 in
set_option maxHeartbeats 4000000 in
theorem graphcheck (n : Int) (A : Option Addr) (xs : List (Int × Int)) (c : Nat) (w : World) (hr : ArcsI w A xs) (hn0 : 0 ≤ n) (hn : n ≤ 1048576) (hl : xs.length ≤ 4194304) :
    Calls Try.prog 66 #[.agg #[.int .i64 n, .slice A xs.length c]] w (RetZero w (ArcsOk n xs)) := by
  have d1 : decide (n < 0) = false := decide_eq_false (by omega)
  have d2 : decide (1048576 < n) = false := decide_eq_false (by omega)
  have d3 : decide (4194304 < (xs.length : Int)) = false := decide_eq_false (by omega)
  have d4 : decide (4194304 < xs.length) = false := decide_eq_false (by omega)
  go_enter Try.func66, Try.ntmps66
  go_wp2
  go_loopw [22] (fun i wr => CkRel w n xs A c i wr) (fun i _ => xs.length - (intOf i).toNat)
  case atStart => exact CkRel.mk 0 (Nat.zero_le _) rfl (fun j hj => by omega) (new_blk w _ _) (below_alloc' (Below.refl _ _) _)
  case round =>
    obtain ⟨k, hk, rfl, hg, hbox, hnx⟩ := hrel
    have b0 : wr.cell? ⟨w.heap.size, 0, none⟩ = some (.int .i64 n) := blk_cell' hbox 0
    have b1 : wr.cell? ⟨w.heap.size, 1, none⟩ = some (.slice A xs.length c) := blk_cell' hbox 1
    have bl := blk_lt' hbox
    by_cases hlt : k < xs.length
    · obtain ⟨b, o, rfl, hb, cx0, cx1⟩ := hr.at_ hlt
      obtain ⟨x, y, hxy⟩ : ∃ x y, xs.getD k (0, 0) = (x, y) := ⟨_, _, rfl⟩
      rw [hxy] at cx0 cx1
      replace cx0 := cell_later hnx cx0
      replace cx1 := cell_later hnx cx1
      have hbw : b < wr.heap.size := Nat.lt_of_lt_of_le hb hnx.size
      have Hxy := hid hxy
      have Hbox := hid hbox
      have Hnx := hid hnx
      have Hg := hid hg
      have Hr := hid hr
      clear hxy hbox hnx hg hr
      by_cases hok : ArcOk n (x, y)
      · have Hok := hid hok
        obtain ⟨o1, o2, o3, o4⟩ := hok
        dsimp only at o1 o2 o3 o4
        go_wp2
        go_roundw
        case rel =>
          have hR : CkRel w n xs (some ⟨b, o, none⟩) c (.int .i64 ((k + 1 : Nat) : Int)) (wr.alloc (.cells #[.int .i64 x, .int .i64 y] 48)) :=
            CkRel.mk (k + 1) (by omega) rfl (fun j hj => by
              by_cases e : j = k
              · rw [e, Hxy.out]; exact Hok.out
              · exact Hg.out j (by omega)) (blk_below Hbox.out (below_alloc' (Below.refl _ _) _)) (below_alloc' Hnx.out _)
          first | exact hR | ((repeat apply Exists.intro); exact ⟨hR, rfl⟩)
        case measure => simp [intOf]; omega
      · have hbad : Hid (¬ ArcsOk n xs) := fun h => hok (by have := h k hlt; rwa [Hxy.out] at this)
        have hcase : x < 0 ∨ (0 ≤ x ∧ n ≤ x) ∨ (0 ≤ x ∧ x < n ∧ y < 0) ∨ (0 ≤ x ∧ x < n ∧ 0 ≤ y ∧ n ≤ y) := by
          unfold ArcOk at hok; simp only at hok; omega
        clear hok
        rcases hcase with h1 | ⟨h1, h2⟩ | ⟨h1, h2, h3⟩ | ⟨h1, h2, h3, h4⟩
        all_goals
          go_wp2
          go_ret
          exact ⟨2, rfl, ⟨fun h => by omega, fun h => absurd h hbad.out⟩, below_alloc' Hnx.out _⟩
    · have hall : Hid (ArcsOk n xs) := fun i hi => hg i (by omega)
      clear hg
      go_wp2
      go_ret
      exact ⟨0, rfl, ⟨fun _ => hall.out, fun _ => rfl⟩, hnx⟩

/-! ### weights -/
def WOk (ws : List Int) : Prop := ∀ i, i < ws.length → -1 ≤ ws.getD i 0 ∧ ws.getD i 0 ≤ 1073741824
def WRel (w : World) (ws : List Int) (i : Value) (wr : World) : Prop := ∃ k : Nat, k ≤ ws.length ∧ i = .int .i64 k ∧ (∀ j, j < k → -1 ≤ ws.getD j 0 ∧ ws.getD j 0 ≤ 1073741824) ∧ Below w.heap.size w wr
set_option maxRecDepth 100000 in
set_option maxHeartbeats 4000000 in
theorem ref38check (n : Int) (A : Option Addr) (xs : List (Int × Int)) (c : Nat) (B : Option Addr) (ws : List Int) (d : Nat) (w : World) (hr : ArcsI w A xs) (hw : Ints w B ws) (hn0 : 0 ≤ n) (hn : n ≤ 1048576) (hl : xs.length ≤ 4194304) (hwl : ws.length ≤ 1099511627776) :
    Calls Try.prog 23 #[.agg #[.int .i64 n, .slice A xs.length c], .slice B ws.length d] w (RetZero w (ArcsOk n xs ∧ ws.length = xs.length ∧ WOk ws)) := by
  have Hr := hid hr
  have Hw := hid hw
  clear hr hw
  go_enter Try.func23, Try.ntmps23
  go_wp2_with fail
  refine (ref37check n A xs c _ (by exact Hr.out.below (below_alloc' (Below.refl _ _) _)) hn0 hn hl).mono ?_
  rintro e w1 ⟨r, rfl, hr0, hb⟩
  have hb1 : Below w.heap.size w w1 := below_then' (below_alloc' (Below.refl _ _) _) hb
  have kb := blk_below (new_blk w _ _) hb
  have b0 : w1.cell? ⟨w.heap.size, 0, none⟩ = some (.int .i64 n) := blk_cell' kb 0
  have b1 : w1.cell? ⟨w.heap.size, 1, none⟩ = some (.slice A xs.length c) := blk_cell' kb 1
  have bl := blk_lt' kb
  have Hb1 := hid hb1
  clear hb1 hb kb
  by_cases h0 : r = 0
  · have hok : Hid (ArcsOk n xs) := hr0.1 h0
    subst h0
    clear hr0
    by_cases hlen : ws.length = xs.length
    · have e1 : ((ws.length : Int) != (xs.length : Int)) = false := by rw [hlen]; simp
      have e2 : (ws.length != xs.length) = false := by rw [hlen]; simp
      have hlen' := hid hlen
      clear hlen
      go_wp2
      go_loopw [6] (fun i wr => WRel w ws i wr) (fun i _ => ws.length - (intOf i).toNat)
      case atStart => exact ⟨0, Nat.zero_le _, rfl, fun j hj => by omega, Hb1.out⟩
      case round =>
        obtain ⟨k, hk, rfl, hg, hnx⟩ := hrel
        by_cases hlt : k < ws.length
        · obtain ⟨b, o, rfl, hbb, cx⟩ := Hw.out.at_ hlt
          obtain ⟨x, hx⟩ : ∃ x, ws.getD k 0 = x := ⟨_, rfl⟩
          rw [hx] at cx
          replace cx := cell_later hnx cx
          have Hx := hid hx
          have Hg := hid hg
          have Hnx := hid hnx
          clear hx hg hnx
          by_cases hok2 : -1 ≤ x ∧ x ≤ 1073741824
          · obtain ⟨o1, o2⟩ := hok2
            have o1' : ¬ x < -1 := by omega
            have o2' : ¬ 1073741824 < x := by omega
            go_wp2
            go_roundw
            case rel =>
              have hR : WRel w ws (.int .i64 ((k + 1 : Nat) : Int)) wr := ⟨k + 1, by omega, rfl, fun j hj => by
                by_cases e : j = k
                · rw [e, Hx.out]; exact ⟨o1, o2⟩
                · exact Hg.out j (by omega), Hnx.out⟩
              first | exact hR | ((repeat apply Exists.intro); exact ⟨hR, rfl⟩)
            case measure => simp [intOf]; omega
          · have hbad : Hid (¬ WOk ws) := fun h => hok2 (by have := h k hlt; rwa [Hx.out] at this)
            have hcase : x < -1 ∨ (-1 ≤ x ∧ 1073741824 < x) := by omega
            clear hok2
            rcases hcase with h1 | ⟨h1, h2⟩
            all_goals
              go_wp2
              go_ret
              exact ⟨17, rfl, ⟨fun h => by omega, fun h => absurd h.2.2 hbad.out⟩, Hnx.out⟩
        · have hall : Hid (WOk ws) := fun i hi => hg i (by omega)
          clear hg
          go_wp2
          go_ret
          exact ⟨0, rfl, ⟨fun _ => ⟨hok.out, hlen'.out, hall.out⟩, fun _ => rfl⟩, hnx⟩
    · have e1 : ((ws.length : Int) != (xs.length : Int)) = true := by simp; omega
      have e2 : (ws.length != xs.length) = true := by simp; omega
      have hlen' := hid hlen
      clear hlen
      go_wp2
      go_ret
      exact ⟨17, rfl, ⟨fun h => by omega, fun h => absurd h.2.1 hlen'.out⟩, Hb1.out⟩
  · have e1 : (r != 0) = true := by simp [h0]
    have hbad : Hid (¬ ArcsOk n xs) := fun h => h0 (hr0.2 h)
    have Hr0 := hid h0
    clear hr0 h0
    go_wp2
    go_ret
    exact ⟨r, rfl, ⟨fun h => absurd h Hr0.out, fun h => absurd h.1 hbad.out⟩, Hb1.out⟩

/-! ### Small -/
def SmallP (n : Int) (xs : List (Int × Int)) (ws : List Int) : Prop := 0 ≤ n ∧ n ≤ 10 ∧ xs.length ≤ 24 ∧ ws.length ≤ 24 ∧ ArcsOk n xs ∧ ws.length = xs.length ∧ WOk ws
def RetBool (w : World) (P : Prop) (en : Ending) (w' : World) : Prop := ∃ r : Bool, en = .returned (.bool r) ∧ (r = true ↔ P) ∧ Below w.heap.size w w'
set_option maxRecDepth 100000 in
set_option maxHeartbeats 4000000 in
theorem small_any (n : Int) (A : Option Addr) (xs : List (Int × Int)) (c : Nat) (B : Option Addr) (ws : List Int) (d : Nat) (w : World) (hr : ArcsI w A xs) (hw : Ints w B ws) (hb1 : xs.length ≤ 9223372036854775807) (hb2 : ws.length ≤ 9223372036854775807) :
    Calls Try.prog 12 #[.agg #[.int .i64 n, .slice A xs.length c], .slice B ws.length d] w (RetBool w (SmallP n xs ws)) := by
  have Hr := hid hr
  have Hw := hid hw
  clear hr hw
  by_cases h : 0 ≤ n ∧ n ≤ 10 ∧ xs.length ≤ 24 ∧ ws.length ≤ 24
  · obtain ⟨h1, h2, h3, h4⟩ := h
    have h3' : (xs.length : Int) ≤ 24 := by omega
    have h4' : (ws.length : Int) ≤ 24 := by omega
    go_enter Try.func12, Try.ntmps12
    go_wp2_with fail
    refine (ref38check n A xs c B ws d _ (by exact Hr.out.below (below_alloc' (Below.refl _ _) _)) (by exact Hw.out.below (below_alloc' (Below.refl _ _) _)) h1 (by omega) (by omega) (by omega)).mono ?_
    rintro e w1 ⟨r, rfl, hr0, hb⟩
    have hb1 : Hid (Below w.heap.size w w1) := below_then' (below_alloc' (Below.refl _ _) _) hb
    have Hr0 := hid hr0
    clear hb hr0
    go_wp2
    go_ret
    refine ⟨r == 0, by simp, ?_, hb1.out⟩
    rw [beq_iff_eq]
    refine Hr0.out.trans ⟨fun h => ⟨h1, h2, h3, h4, h⟩, fun h => h.2.2.2.2⟩
  · have hno : Hid (¬ SmallP n xs ws) := fun q => h ⟨q.1, q.2.1, q.2.2.1, q.2.2.2.1⟩
    have hc : n < 0 ∨ (0 ≤ n ∧ 10 < n) ∨ (0 ≤ n ∧ n ≤ 10 ∧ 24 < (xs.length : Int)) ∨ (0 ≤ n ∧ n ≤ 10 ∧ (xs.length : Int) ≤ 24 ∧ 24 < (ws.length : Int)) := by omega
    clear h
    rcases hc with h1 | ⟨h1, h2⟩ | ⟨h1, h2, h3⟩ | ⟨h1, h2, h3, h4⟩
    all_goals
      go_enter Try.func12, Try.ntmps12
      go_wp2
      go_ret
      refine ⟨false, by simp; try omega, ⟨fun q => (by cases q), fun q => absurd q hno.out⟩, below_alloc' (Below.refl _ _) _⟩

end Go.Proofs.Ytpfjannhggcmiaa
