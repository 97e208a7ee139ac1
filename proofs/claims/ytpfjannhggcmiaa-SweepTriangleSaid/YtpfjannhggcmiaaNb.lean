/- Contract of graph.Neighbours: the neighbours of each vertex. -/
import Derived.Test.YtpfjannhggcmiaaTab
import Derived.Test.YtpfjannhggcmiaaReg
namespace Go.Proofs.Ytpfjannhggcmiaa
open Go.RowKit Go.Maps

theorem made_one (z : Value) (n : Nat) : madeCells #[z] n = Array.replicate n z := by
  apply Array.ext
  · simp [madeCells]
  · intro i h1 h2
    simp at h2
    simp [madeCells, Nat.mod_one]
theorem run_make_ints (n : Nat) (hn : n ≤ 1099511627776) (W : World) : (Instr.makeSlice 25 (.int .i64 (n : Int)) (.int .i64 (n : Int))).run Try.prog W = .ok (.slice (some ⟨W.heap.size, 0, none⟩) n n) (W.alloc (.cells (Array.replicate n (.int .i64 0)) 3)) := by
  obtain ⟨i0, hi, hz0, hz1, hz2⟩ := info_parts info_int
  have := run_make (P := Try.prog) W 25 3 i0 _ Try.underlying25 hi hz0 .i64 .i64 (n : Int) (n : Int) (by omega) (by omega) (by rw [hz2]; omega) (by omega)
  rw [this, hz1]
  simp only [Int.toNat_natCast, Nat.mul_one]
  rw [show (Value.int .i64 0).cells = #[.int .i64 0] from rfl, made_one]
theorem run_make_rows (n : Nat) (hn : n ≤ 1099511627776) (W : World) : (Instr.makeSlice 55 (.int .i64 (n : Int)) (.int .i64 (n : Int))).run Try.prog W = .ok (.slice (some ⟨W.heap.size, 0, none⟩) n n) (W.alloc (.cells (Array.replicate n (.slice none 0 0)) 25)) := by
  obtain ⟨i0, hi, hz0, hz1, hz2⟩ := info_parts info_ints
  have := run_make (P := Try.prog) W 55 25 i0 _ Try.underlying55 hi hz0 .i64 .i64 (n : Int) (n : Int) (by omega) (by omega) (by rw [hz2]; omega) (by omega)
  rw [this, hz1]
  simp only [Int.toNat_natCast, Nat.mul_one]
  rw [show (Value.slice none 0 0).cells = #[.slice none 0 0] from rfl, made_one]

/-! ### the plain side -/
/-- x and v are the ends of one of the first k arcs, and differ. -/
def Adj (E : List (Nat × Nat)) (k v x : Nat) : Prop := x ≠ v ∧ ∃ i, i < k ∧ (E.getD i (0, 0) = (v, x) ∨ E.getD i (0, 0) = (x, v))
structure Nb1 (n : Nat) (E : List (Nat × Nat)) (k : Nat) (rows : List (List Nat)) : Prop where
  len : rows.length = n
  mem : ∀ v, v < n → ∀ x, x ∈ rows.getD v [] ↔ Adj E k v x
  small : ∀ v, v < n → (rows.getD v []).length ≤ k
theorem Nb1.zero (n : Nat) (E : List (Nat × Nat)) : Nb1 n E 0 (List.replicate n []) where
  len := by simp
  mem := fun v hv x => by
    have : (List.replicate n ([] : List Nat)).getD v [] = [] := by simp [List.getD, hv]
    rw [this]
    simp [Adj]
  small := fun v hv => by simp [List.getD, hv]
theorem Adj.succ {E : List (Nat × Nat)} {k v x : Nat} : Adj E (k + 1) v x ↔ Adj E k v x ∨ (x ≠ v ∧ (E.getD k (0, 0) = (v, x) ∨ E.getD k (0, 0) = (x, v))) := by
  unfold Adj
  constructor
  · rintro ⟨h1, i, hi, h2⟩
    by_cases e : i = k
    · subst e; exact .inr ⟨h1, h2⟩
    · exact .inl ⟨h1, i, by omega, h2⟩
  · rintro (⟨h1, i, hi, h2⟩ | ⟨h1, h2⟩)
    · exact ⟨h1, i, by omega, h2⟩
    · exact ⟨h1, k, by omega, h2⟩
theorem Nb1.same {n : Nat} {E : List (Nat × Nat)} {k a : Nat} {rows : List (List Nat)} (h : Nb1 n E k rows) (he : E.getD k (0, 0) = (a, a)) : Nb1 n E (k + 1) rows where
  len := h.len
  mem := fun v hv x => by
    rw [h.mem v hv, Adj.succ, he]
    constructor
    · exact .inl
    · rintro (h1 | ⟨h1, h2 | h2⟩)
      · exact h1
      · cases h2; exact absurd rfl h1
      · cases h2; exact absurd rfl h1
  small := fun v hv => Nat.le_succ_of_le (h.small v hv)
theorem getD_set_self {α : Type} (L : List α) (i : Nat) (x d : α) (h : i < L.length) : (L.set i x).getD i d = x := by simp [List.getD, h]
theorem getD_set_ne {α : Type} (L : List α) (i j : Nat) (x d : α) (h : i ≠ j) : (L.set i x).getD j d = L.getD j d := by simp [List.getD, List.getElem?_set, h]
theorem Nb1.step {n : Nat} {E : List (Nat × Nat)} {k a b : Nat} {rows : List (List Nat)} (h : Nb1 n E k rows) (he : E.getD k (0, 0) = (a, b)) (hab : a ≠ b) (ha : a < n) (hb : b < n) :
    Nb1 n E (k + 1) ((rows.set a (rows.getD a [] ++ [b])).set b (rows.getD b [] ++ [a])) where
  len := by simp [h.len]
  mem := fun v hv x => by
    have hl := h.len
    by_cases e : v = b
    · subst e
      rw [getD_set_self _ _ _ _ (by simp; omega), List.mem_append, h.mem v hv, Adj.succ, he]
      simp only [List.mem_singleton, Prod.mk.injEq]
      constructor
      · rintro (h1 | h1)
        · exact .inl h1
        · exact .inr ⟨by omega, .inr ⟨h1.symm, trivial⟩⟩
      · rintro (h1 | ⟨h1, ⟨h2, h3⟩ | ⟨h2, h3⟩⟩)
        · exact .inl h1
        · omega
        · exact .inr h2.symm
    · rw [getD_set_ne _ _ _ _ _ (Ne.symm e)]
      by_cases e2 : v = a
      · subst e2
        rw [getD_set_self _ _ _ _ (by omega), List.mem_append, h.mem v hv, Adj.succ, he]
        simp only [List.mem_singleton, Prod.mk.injEq]
        constructor
        · rintro (h1 | h1)
          · exact .inl h1
          · exact .inr ⟨by omega, .inl ⟨trivial, h1.symm⟩⟩
        · rintro (h1 | ⟨h1, ⟨h2, h3⟩ | ⟨h2, h3⟩⟩)
          · exact .inl h1
          · exact .inr h3.symm
          · omega
      · rw [getD_set_ne _ _ _ _ _ (Ne.symm e2), h.mem v hv, Adj.succ, he]
        simp only [Prod.mk.injEq]
        constructor
        · exact .inl
        · rintro (h1 | ⟨h1, ⟨h2, h3⟩ | ⟨h2, h3⟩⟩)
          · exact h1
          · omega
          · omega
  small := fun v hv => by
    have hl := h.len
    by_cases e : v = b
    · subst e
      rw [getD_set_self _ _ _ _ (by simp; omega)]
      have := h.small v hv
      rw [List.length_append, List.length_singleton]; omega
    · rw [getD_set_ne _ _ _ _ _ (Ne.symm e)]
      by_cases e2 : v = a
      · subst e2
        rw [getD_set_self _ _ _ _ (by omega)]
        have := h.small v hv
        rw [List.length_append, List.length_singleton]; omega
      · rw [getD_set_ne _ _ _ _ _ (Ne.symm e2)]
        exact Nat.le_succ_of_le (h.small v hv)

/-- After k vertices: the first k rows are sets. -/
structure Nb2 (n : Nat) (E : List (Nat × Nat)) (k : Nat) (rows : List (List Nat)) : Prop where
  len : rows.length = n
  mem : ∀ v, v < n → ∀ x, x ∈ rows.getD v [] ↔ Adj E E.length v x
  small : ∀ v, v < n → k ≤ v → (rows.getD v []).length ≤ E.length
  sorted : ∀ v, v < k → (rows.getD v []).Pairwise (· < ·)
theorem Nb1.two {n : Nat} {E : List (Nat × Nat)} {rows : List (List Nat)} (h : Nb1 n E E.length rows) : Nb2 n E 0 rows := ⟨h.len, h.mem, fun v hv _ => h.small v hv, fun v hv => by omega⟩
theorem Nb2.step {n : Nat} {E : List (Nat × Nat)} {k : Nat} {rows : List (List Nat)} {ys : List Nat} (h : Nb2 n E k rows) (hk : k < n) (hs : SetOf (rows.getD k []) ys) : Nb2 n E (k + 1) (rows.set k ys) where
  len := by simp [h.len]
  mem := fun v hv x => by
    have hl := h.len
    by_cases e : k = v
    · subst e
      rw [getD_set_self _ _ _ _ (by omega), hs.mem, h.mem k hk]
    · rw [getD_set_ne _ _ _ _ _ e, h.mem v hv]
  small := fun v hv hkv => by rw [getD_set_ne _ _ _ _ _ (by omega)]; exact h.small v hv (by omega)
  sorted := fun v hv => by
    have hl := h.len
    by_cases e : k = v
    · subst e
      rw [getD_set_self _ _ _ _ (by omega)]
      exact hs.sorted
    · rw [getD_set_ne _ _ _ _ _ e]; exact h.sorted v (by omega)
theorem sorted_short {L : List Nat} {n : Nat} (h : L.Pairwise (· < ·)) (hm : ∀ x ∈ L, x < n) : L.length ≤ n := by
  have h1 : ∀ (L : List Nat) (a : Nat), (a :: L).Pairwise (· < ·) → (∀ x ∈ a :: L, x < n) → a + L.length < n := by
    intro L
    induction L with
    | nil => intro a _ hm; simpa using hm a (by simp)
    | cons b L ih =>
      intro a hp hm
      rw [List.pairwise_cons] at hp
      have := ih b hp.2 (fun x hx => hm x (List.mem_cons_of_mem _ hx))
      have := hp.1 b (by simp)
      simp
      omega
  cases L with
  | nil => simp
  | cons a L => have := h1 L a h hm; simp; omega

/-- A new table with the neighbours is returned. -/
def RetNb (w : World) (n : Nat) (E : List (Nat × Nat)) (en : Ending) (w' : World) : Prop :=
  ∃ g rows, en = .returned (.slice (some ⟨g, 0, none⟩) n n) ∧ Nb2 n E n rows ∧ (∃ lab, TabAt w' lab 1 w.heap.size g rows) ∧ Below w.heap.size w w'

def NbRel (w : World) (n : Nat) (E : List (Nat × Nat)) (A : Option Addr) (c g : Nat) (i : Value) (wr : World) : Prop :=
  ∃ (k : Nat) (lab : Lab) (rows : List (List Nat)), k ≤ E.length ∧ i = .int .i64 k ∧ Nb1 n E k rows ∧ TabAt wr lab 1 w.heap.size g rows ∧ wr.heap[w.heap.size]? = some (.cells #[.int .i64 (n : Int), .slice A E.length c] 24 (0, 0)) ∧ Below w.heap.size w wr
theorem NbRel.mk {w : World} {n : Nat} {E : List (Nat × Nat)} {A : Option Addr} {c g : Nat} {i : Value} {wr : World} (k : Nat) (lab : Lab) (rows : List (List Nat)) (h1 : k ≤ E.length) (h2 : i = .int .i64 k) (h3 : Nb1 n E k rows) (h4 : TabAt wr lab 1 w.heap.size g rows)
    (h5 : wr.heap[w.heap.size]? = some (.cells #[.int .i64 (n : Int), .slice A E.length c] 24 (0, 0))) (h6 : Below w.heap.size w wr) : NbRel w n E A c g i wr := ⟨k, lab, rows, h1, h2, h3, h4, h5, h6⟩
def NbRel2 (w : World) (n : Nat) (E : List (Nat × Nat)) (g : Nat) (i : Value) (wr : World) : Prop :=
  ∃ (k : Nat) (lab : Lab) (rows : List (List Nat)), k ≤ n ∧ i = .int .i64 k ∧ Nb2 n E k rows ∧ TabAt wr lab 1 w.heap.size g rows ∧ Below w.heap.size w wr

theorem TabAt.below {w w' : World} {lab : Lab} {c base g : Nat} {rows : List (List Nat)} (h : TabAt w lab c base g rows) (hb : Below w.heap.size w w') : TabAt w' lab c base g rows := h.frame (fun k hk _ => hb.block k hk) (fun _ _ => rfl)

theorem tab_kept {W W' w2 : World} {lab : Lab} {c base g i : Nat} {rows : List (List Nat)} {v : Value} (T : TabAt W lab c base g rows) (hb : Below W.heap.size W W') (hg : W'.grownBy w2 v.ownBlock) (hne : some g ≠ v.ownBlock) (hc : W.cell? ⟨g, i, none⟩ = some v) :
    w2.cell? ⟨g, i, none⟩ = some v ∧ w2.frozen? ⟨g, i, none⟩ = false := by
  obtain ⟨vs, hh⟩ := T.blk
  have h2 := blk_grown (blk_below hh hb) hg hne
  refine ⟨?_, blk_free h2 i⟩
  rw [blk_cell' h2, ← blk_cell' hh, hc]
/-- A number is appended to a row of the table. -/
theorem TabAt.app {W W' w2 : World} {lab : Lab} {c base g i x : Nat} {rows : List (List Nat)} {v v' : Value} (T : TabAt W lab c base g rows) (hb : Below W.heap.size W W') (hi : i < rows.length) (hc : W.cell? ⟨g, i, none⟩ = some v) (hg : W'.grownBy w2 v.ownBlock)
    (hown : w2.ownsRow base 3 1 v' ((rows.getD i []).length + 1) ((rows.getD i []).map natv ++ [natv x])) (hloc : v'.ownBlock = v.ownBlock ∨ ∃ k, v'.ownBlock = some k ∧ W'.heap.size ≤ k) :
    TabAt (w2.setCell ⟨g, i, none⟩ v') (relab lab v' c i) c base g (rows.set i (rows.getD i [] ++ [x])) := by
  have T' : TabAt W' lab c base g rows := T.frame (fun k hk _ => hb.block k hk) (fun _ _ => rfl)
  obtain ⟨v0, hv0, _, hl0, _⟩ := T.at_ hi
  rw [hc] at hv0
  cases hv0
  have hc' : W'.cell? ⟨g, i, none⟩ = some v := by
    obtain ⟨vs, hh⟩ := T.blk
    rw [blk_cell' (blk_below hh hb), ← blk_cell' hh, hc]
  refine T'.put hi hc' hg (by simpa using hown) (relab_old hloc hl0) (fun k hk => relab_self _ _ _ _ _ hk)

set_option maxRecDepth 100000 in
set_option maxHeartbeats 8000000 in
theorem neighbours (n : Nat) (E : List (Nat × Nat)) (A : Option Addr) (c : Nat) (w : World) (hn : n ≤ 1048576) (he : E.length ≤ 4194304) (hE : EndsOk n E) (hr : Arcs w A E) :
    Calls Try.prog 92 #[.agg #[.int .i64 (n : Int), .slice A E.length c]] w (RetNb w n E) := by
  have Hr := hid hr
  have HE := hid hE
  clear hr hE
  have hmk := run_make_rows n (by omega)
  go_enter Try.func92, Try.ntmps92
  go_wp2_with fail
  rw [← toI_length E]
  refine (graphcheck n A (toI E) c _ (arcs_toI.1 (by exact Hr.out.below (below_alloc' (Below.refl _ _) _))) (by omega) (by omega) (by rw [toI_length]; exact he)).mono ?_
  rintro e w1 ⟨r, rfl, hr0, hb⟩
  obtain rfl : r = 0 := hr0.2 (fun i hi => by rw [toI_length] at hi; have := HE.out i hi; unfold ArcOk; rw [toI_getD]; simp only; omega)
  rw [toI_length E] at hb ⊢
  have hb1 : Below w.heap.size w w1 := below_then' (below_alloc' (Below.refl _ _) _) hb
  have kb : w1.heap[w.heap.size]? = some (.cells #[.int .i64 (n : Int), .slice A E.length c] 24 (0, 0)) := blk_below (new_blk w _ _) hb
  have b0 : w1.cell? ⟨w.heap.size, 0, none⟩ = some (.int .i64 (n : Int)) := blk_cell' kb 0
  have b1 : w1.cell? ⟨w.heap.size, 1, none⟩ = some (.slice A E.length c) := blk_cell' kb 1
  have bl := blk_lt' kb
  have Hb1 := hid hb1
  have Kb := hid kb
  clear hb1 hb kb hr0
  go_wp2
  go_loopw [16] (fun i wr => NbRel w n E A c w1.heap.size i wr) (fun i _ => E.length - (intOf i).toNat)
  case atStart => exact NbRel.mk 0 (fun _ => (1, n)) _ (Nat.zero_le _) rfl (Nb1.zero n E) (TabAt.made Hb1.out.size rfl (new_blk w1 _ _)) (blk_below Kb.out (below_alloc' (Below.refl _ _) _)) (below_alloc' Hb1.out _)
  case round =>
    obtain ⟨k, lab, rows, hk, rfl, hnb, htab, hbox, hnx⟩ := hrel
    clear b0 b1 bl
    have Hnb := hid hnb
    have Htab := hid htab
    have Hbox := hid hbox
    have Hnx := hid hnx
    by_cases hlt : k < E.length
    · obtain ⟨b, o, rfl, hb, cx0, cx1⟩ := Hr.out.at_ hlt
      have hends := HE.out k hlt
      obtain ⟨x, y, hxy⟩ : ∃ x y, E.getD k (0, 0) = (x, y) := ⟨_, _, rfl⟩
      rw [hxy] at cx0 cx1 hends
      obtain ⟨hx, hy⟩ := hends
      dsimp only at cx0 cx1 hx hy
      replace cx0 := cell_later hnx cx0
      replace cx1 := cell_later hnx cx1
      have hbw : b < wr.heap.size := Nat.lt_of_lt_of_le hb hnx.size
      have hgl : w1.heap.size < wr.heap.size := htab.lt
      have Hxy := hid hxy
      clear hxy hnb htab hbox hnx
      by_cases e : x = y
      · subst e
        go_wp2
        go_roundw
        case rel =>
          have hR : NbRel w n E (some ⟨b, o, none⟩) c w1.heap.size (.int .i64 ((k + 1 : Nat) : Int)) (wr.alloc (.cells #[.int .i64 (x : Int), .int .i64 (x : Int)] 48)) :=
            NbRel.mk (k + 1) lab rows (by omega) rfl (Hnb.out.same Hxy.out) (Htab.out.below (below_alloc' (Below.refl _ _) _)) (blk_below Hbox.out (below_alloc' (Below.refl _ _) _)) (below_alloc' Hnx.out _)
          first | exact hR | ((repeat apply Exists.intro); exact ⟨hR, rfl⟩)
        case measure => simp [intOf]; omega
      · have ne1 : ((x : Int) != (y : Int)) = true := by simp; omega
        have ne2 : (x != y) = true := by simp; omega
        go_wp2
        obtain ⟨W1, hW1⟩ : ∃ W, W = wr.alloc (.cells #[.int .i64 (x : Int), .int .i64 (y : Int)] 48) := ⟨_, rfl⟩
        rw [← hW1]
        have hbx : W1.heap[wr.heap.size]? = some (.cells #[.int .i64 (x : Int), .int .i64 (y : Int)] 48 (0, 0)) := by rw [hW1]; exact new_blk wr _ _
        have hbW : Below wr.heap.size wr W1 := by rw [hW1]; exact below_alloc' (Below.refl _ _) _
        have T1 := Htab.out.below hbW
        have hrl := Hnb.out.len
        have hstep := Hnb.out.step Hxy.out e hx hy
        obtain ⟨rx, hrx⟩ : ∃ R, R = rows.getD x [] := ⟨_, rfl⟩
        obtain ⟨ry, hry⟩ : ∃ R, R = rows.getD y [] := ⟨_, rfl⟩
        have Hstep := hid hstep
        obtain ⟨v0, cv, own0, lab0, ne0⟩ := T1.at_ (i := x) (by rw [hrl]; exact hx)
        have fz := T1.free x
        rw [← hrx] at own0
        have e0 : W1.cell? ⟨wr.heap.size, 0, none⟩ = some (.int .i64 (x : Int)) := blk_cell' hbx 0
        have e1 : W1.cell? ⟨wr.heap.size, 1, none⟩ = some (.int .i64 (y : Int)) := blk_cell' hbx 1
        have el : wr.heap.size < W1.heap.size := blk_lt' hbx
        have nl : Hid (rx.length ≤ E.length) := by rw [hrx]; exact Nat.le_trans (Hnb.out.small x hx) hk
        have nl2 : Hid (ry.length ≤ E.length) := by rw [hry]; exact Nat.le_trans (Hnb.out.small y hy) hk
        have gl : w1.heap.size < W1.heap.size := T1.lt
        have Own0 := hid own0
        have Hbx := hid hbx
        have HT1 := hid T1
        have HnW := hid (show Below w.heap.size w W1 from Hnx.out.trans (hbW.mono Hnx.out.size))
        have HboxW : Hid (W1.heap[w.heap.size]? = some (.cells #[.int .i64 (n : Int), .slice (some ⟨b, o, none⟩) E.length c] 24 (0, 0))) := blk_below Hbox.out hbW
        have Hrl := hid hrl
        have Hrx := hid hrx
        have Hry := hid hry
        have nx : Hid (some wr.heap.size ≠ v0.ownBlock) := own_ne own0 hbx (by decide)
        have nbox : Hid (some w.heap.size ≠ v0.ownBlock) := own_ne own0 HboxW.out (by decide)
        have Hne0 := hid ne0
        have HBs : Hid (w.heap.size ≤ W1.heap.size) := Nat.le_trans Hnx.out.size hbW.size
        have hS1 : Hid (∀ W', Below W1.heap.size W1 W' → W'.cell? ⟨wr.heap.size, 0, none⟩ = some (.int .i64 (x : Int)) ∧ W'.cell? ⟨wr.heap.size, 1, none⟩ = some (.int .i64 (y : Int)) ∧ W'.cell? ⟨w1.heap.size, x, none⟩ = some v0) := fun W' h => ⟨cell_later h e0, cell_later h e1, cell_later h cv⟩
        clear own0 hbx hbW T1 lab0 hW1 ne0 hrl hrx hry hstep
        refine wp_region_plan (fun w' => w'.cell? ⟨wr.heap.size, 0, none⟩ = some (.int .i64 (x : Int)) ∧ w'.cell? ⟨wr.heap.size, 1, none⟩ = some (.int .i64 (y : Int)) ∧ w'.cell? ⟨w1.heap.size, x, none⟩ = some v0) 13 [0, 1, 2, 3, 4, 5, 6, 7, 8, 9] [10, 11, 12] (by kernel_rfl) (by kernel_rfl) ⟨e0, e1, cv⟩ ?_
        iterate 10
          refine readsS_take (v := ?_) rfl (by rfl) ?_ ?_
          rotate_left
          · (intro W hSW; (try dsimp only at hSW); go_split_ands; go_simp; try with_reducible rfl)
          simp only [Act.put, List.setIfInBounds_toArray, List.set_cons_zero, List.set_cons_succ]
        refine readsS_nil ?_
        refine chainS_step rfl (fun K hK => ?_)
        go_simp
        refine hK.out _ _ (hS1.out _ (by exact (below_alloc' (Below.refl _ _) _).drew)) ?_
        clear hK K
        try simp only [Act.put, List.setIfInBounds_toArray, List.set_cons_zero, List.set_cons_succ]
        refine chainS_step rfl (fun K hK => ?_)
        refine step_app1 (by rfl) _ _ 25 3 _ 1 8 (by rfl) Try.underlying25 info_int (by rfl) (by decide) w.heap.size rx.length W1.heap.size v0 (rx.map natv) [.int .i64 (y : Int)] (by rfl) (by rfl) (by exact new_blk W1 _ _) (by exact (Own0.out.alloc _)) (by rfl) (by simp [Value.oneCell']) (by have := nl.out; omega) (by have := nl.out; omega) (by have := HBs.out; simp; omega) ?_
        intro v2 w2' hown2 hgrow2 hloc2
        obtain ⟨kc2, kf2⟩ := tab_kept HT1.out (by exact (below_alloc' (Below.refl _ _) _).drew) hgrow2 Hne0.out cv
        obtain ⟨A2, c2, hv2, _, _, _⟩ := own_row hown2
        subst hv2
        have hbx2 := blk_grown (by exact blk_below Hbx.out (below_alloc' (Below.refl _ _) _).drew) hgrow2 nx.out
        have k0 : w2'.cell? ⟨wr.heap.size, 0, none⟩ = some (.int .i64 (x : Int)) := blk_cell' hbx2 0
        have k1 : w2'.cell? ⟨wr.heap.size, 1, none⟩ = some (.int .i64 (y : Int)) := blk_cell' hbx2 1
        refine hK.out _ _ ⟨k0, k1, kc2⟩ ?_
        clear hK K
        try simp only [Act.put, List.setIfInBounds_toArray, List.set_cons_zero, List.set_cons_succ]
        refine chainS_step rfl (fun K hK => ?_)
        go_simp
        refine hK.out _ _ ⟨k0, k1, kc2⟩ ?_
        clear hK K
        try simp only [Act.put, List.setIfInBounds_toArray, List.set_cons_zero, List.set_cons_succ]
        refine chainS_last rfl (fun K hK => ?_)
        go_simp
        refine hK.out _ _ (NoPanic.normal ?_)
        clear hK K
        have T2 := HT1.out.app (by exact (below_alloc' (Below.refl _ _) _).drew) (by rw [Hrl.out]; exact hx) cv hgrow2 (x := y) (v' := .slice A2 (rx.length + 1) c2) (by rw [← Hrx.out]; exact hown2) hloc2
        rw [← Hrx.out] at T2
        have hbxx := blk_far' hbx2 (p := ⟨w1.heap.size, x, none⟩) (Nat.ne_of_gt hgl) (.slice A2 (rx.length + 1) c2)
        have hboxx := blk_far' (blk_grown (by exact blk_below HboxW.out (below_alloc' (Below.refl _ _) _).drew) hgrow2 nbox.out) (p := ⟨w1.heap.size, x, none⟩) (Nat.ne_of_lt (Nat.lt_of_lt_of_le (blk_lt' Kb.out) (Nat.le_refl _))) (.slice A2 (rx.length + 1) c2)
        have hnxx := (((show Below w.heap.size w _ from (below_alloc' HnW.out _).drew).grown hgrow2 (by have := HBs.out; simp; omega) (fun j hj => (Own0.out.lt j hj).1))).setCell (p := ⟨w1.heap.size, x, none⟩) Hb1.out.size (.slice A2 (rx.length + 1) c2)
        clear hown2 hgrow2 hloc2 kc2 kf2 k0 k1 hbx2 hS1 cv fz e0 e1 el gl
        obtain ⟨W2, hW2⟩ : ∃ W, W = w2'.setCell ⟨w1.heap.size, x, none⟩ (.slice A2 (rx.length + 1) c2) := ⟨_, rfl⟩
        rw [← hW2] at T2 hbxx hboxx hnxx ⊢
        clear hW2
        have hry2 : Hid ((rows.set x (rx ++ [y])).getD y [] = ry) := by rw [getD_set_ne _ _ _ _ _ e]; exact Hry.out.symm
        have hlen2 : Hid ((rows.set x (rx ++ [y])).length = n) := by rw [List.length_set]; exact Hrl.out
        obtain ⟨v1, cv1, own1, lab1, ne1⟩ := T2.at_ (i := y) (by rw [hlen2.out]; exact hy)
        rw [hry2.out] at own1
        have fz1 := T2.free y
        have e0 : W2.cell? ⟨wr.heap.size, 0, none⟩ = some (.int .i64 (x : Int)) := blk_cell' hbxx 0
        have e1 : W2.cell? ⟨wr.heap.size, 1, none⟩ = some (.int .i64 (y : Int)) := blk_cell' hbxx 1
        have el : wr.heap.size < W2.heap.size := blk_lt' hbxx
        have gl : w1.heap.size < W2.heap.size := T2.lt
        have Own1 := hid own1
        have Hbxx := hid hbxx
        have HT2 := hid T2
        have HnW2 := hid hnxx
        have Hboxx := hid hboxx
        have nx1 : Hid (some wr.heap.size ≠ v1.ownBlock) := own_ne own1 hbxx (by decide)
        have nbox1 : Hid (some w.heap.size ≠ v1.ownBlock) := own_ne own1 hboxx (by decide)
        have Hne1 := hid ne1
        have HBs2 : Hid (w.heap.size ≤ W2.heap.size) := hnxx.size
        have hS2 : Hid (∀ W', Below W2.heap.size W2 W' → W'.cell? ⟨wr.heap.size, 0, none⟩ = some (.int .i64 (x : Int)) ∧ W'.cell? ⟨wr.heap.size, 1, none⟩ = some (.int .i64 (y : Int)) ∧ W'.cell? ⟨w1.heap.size, y, none⟩ = some v1) := fun W' h => ⟨cell_later h e0, cell_later h e1, cell_later h cv1⟩
        clear own1 hbxx T2 lab1 ne1 hboxx hnxx
        go_wp2
        refine wp_region_plan (fun w' => w'.cell? ⟨wr.heap.size, 0, none⟩ = some (.int .i64 (x : Int)) ∧ w'.cell? ⟨wr.heap.size, 1, none⟩ = some (.int .i64 (y : Int)) ∧ w'.cell? ⟨w1.heap.size, y, none⟩ = some v1) 13 [0, 1, 2, 3, 4, 5, 6, 7, 8, 9] [10, 11, 12] (by kernel_rfl) (by kernel_rfl) ⟨e0, e1, cv1⟩ ?_
        iterate 10
          refine readsS_take (v := ?_) rfl (by rfl) ?_ ?_
          rotate_left
          · (intro W hSW; (try dsimp only at hSW); go_split_ands; go_simp; try with_reducible rfl)
          simp only [Act.put, List.setIfInBounds_toArray, List.set_cons_zero, List.set_cons_succ]
        refine readsS_nil ?_
        refine chainS_step rfl (fun K hK => ?_)
        go_simp
        refine hK.out _ _ (hS2.out _ (by exact (below_alloc' (Below.refl _ _) _).drew)) ?_
        clear hK K
        try simp only [Act.put, List.setIfInBounds_toArray, List.set_cons_zero, List.set_cons_succ]
        refine chainS_step rfl (fun K hK => ?_)
        refine step_app1 (by rfl) _ _ 25 3 _ 1 8 (by rfl) Try.underlying25 info_int (by rfl) (by decide) w.heap.size ry.length W2.heap.size v1 (ry.map natv) [.int .i64 (x : Int)] (by rfl) (by rfl) (by exact new_blk W2 _ _) (by exact (Own1.out.alloc _)) (by rfl) (by simp [Value.oneCell']) (by have := nl2.out; omega) (by have := nl2.out; omega) (by have := HBs2.out; simp; omega) ?_
        intro v3 w3' hown3 hgrow3 hloc3
        obtain ⟨kc3, kf3⟩ := tab_kept HT2.out (by exact (below_alloc' (Below.refl _ _) _).drew) hgrow3 Hne1.out cv1
        obtain ⟨A3, c3, hv3, _, _, _⟩ := own_row hown3
        subst hv3
        have hbx2 := blk_grown (by exact blk_below Hbxx.out (below_alloc' (Below.refl _ _) _).drew) hgrow3 nx1.out
        have k0 : w3'.cell? ⟨wr.heap.size, 0, none⟩ = some (.int .i64 (x : Int)) := blk_cell' hbx2 0
        have k1 : w3'.cell? ⟨wr.heap.size, 1, none⟩ = some (.int .i64 (y : Int)) := blk_cell' hbx2 1
        refine hK.out _ _ ⟨k0, k1, kc3⟩ ?_
        clear hK K
        try simp only [Act.put, List.setIfInBounds_toArray, List.set_cons_zero, List.set_cons_succ]
        refine chainS_step rfl (fun K hK => ?_)
        go_simp
        refine hK.out _ _ ⟨k0, k1, kc3⟩ ?_
        clear hK K
        try simp only [Act.put, List.setIfInBounds_toArray, List.set_cons_zero, List.set_cons_succ]
        refine chainS_last rfl (fun K hK => ?_)
        go_simp
        refine hK.out _ _ (NoPanic.normal ?_)
        clear hK K
        have T3 := HT2.out.app (by exact (below_alloc' (Below.refl _ _) _).drew) (by rw [hlen2.out]; exact hy) cv1 hgrow3 (x := x) (v' := .slice A3 (ry.length + 1) c3) (by rw [hry2.out]; exact hown3) hloc3
        have hboxx := blk_far' (blk_grown (by exact blk_below Hboxx.out (below_alloc' (Below.refl _ _) _).drew) hgrow3 nbox1.out) (p := ⟨w1.heap.size, y, none⟩) (Nat.ne_of_lt (Nat.lt_of_lt_of_le (blk_lt' Kb.out) (Nat.le_refl _))) (.slice A3 (ry.length + 1) c3)
        have hnxx := (((show Below w.heap.size w _ from (below_alloc' HnW2.out _).drew).grown hgrow3 (by have := HBs2.out; simp; omega) (fun j hj => (Own1.out.lt j hj).1))).setCell (p := ⟨w1.heap.size, y, none⟩) Hb1.out.size (.slice A3 (ry.length + 1) c3)
        clear hown3 hgrow3 hloc3 kc3 kf3 k0 k1 hbx2 hS2 cv1 fz1 e0 e1 el gl
        obtain ⟨W3, hW3⟩ : ∃ W, W = w3'.setCell ⟨w1.heap.size, y, none⟩ (.slice A3 (ry.length + 1) c3) := ⟨_, rfl⟩
        rw [← hW3] at T3 hboxx hnxx ⊢
        clear hW3
        have HT3 := hid T3
        have Hboxx3 := hid hboxx
        have Hnxx3 := hid hnxx
        clear T3 hboxx hnxx
        go_wp2
        go_roundw
        case rel =>
          have hR : NbRel w n E (some ⟨b, o, none⟩) c w1.heap.size (.int .i64 ((k + 1 : Nat) : Int)) W3 := by
            refine NbRel.mk (k + 1) _ _ (by omega) rfl ?_ HT3.out Hboxx3.out Hnxx3.out
            rw [hry2.out, Hrx.out, Hry.out]
            exact Hstep.out
          first | exact hR | ((repeat apply Exists.intro); exact ⟨hR, rfl⟩)
        case measure => simp [intOf]; omega
    · have : k = E.length := by omega
      subst this
      have c0 : wr.cell? ⟨w.heap.size, 0, none⟩ = some (.int .i64 (n : Int)) := blk_cell' hbox 0
      have cl := blk_lt' hbox
      clear hnb htab hbox hnx
      go_wp2
      go_loopw [54] (fun i wr => NbRel2 w n E w1.heap.size i wr) (fun i _ => n - (intOf i).toNat)
      case atStart => exact ⟨0, lab, rows, Nat.zero_le _, rfl, Hnb.out.two, Htab.out, Hnx.out⟩
      case round =>
        obtain ⟨k, lab, rows, hk, rfl, hnb, htab, hnx⟩ := hrel
        have Hnb2 := hid hnb
        have Htab2 := hid htab
        have Hnx2 := hid hnx
        clear c0 cl Hnb Htab Hbox Hnx
        by_cases hlt : k < n
        · have hrl := hnb.len
          obtain ⟨rx, hrx⟩ : ∃ R, R = rows.getD k [] := ⟨_, rfl⟩
          obtain ⟨v0, cv, own0, lab0, ne0⟩ := htab.at_ (i := k) (by rw [hrl]; exact hlt)
          have fz := htab.free k
          rw [← hrx] at own0
          obtain ⟨A0, c0, rfl, hc0, hf0, hN0⟩ := own_nats own0
          have hrlen : rx.length ≤ 4194304 := by rw [hrx]; exact Nat.le_trans (hnb.small k hlt (Nat.le_refl _)) he
          have gl : w1.heap.size < wr.heap.size := htab.lt
          have HN0 := hid hN0
          have Hrx := hid hrx
          have Hrl := hid hrl
          clear own0 lab0 ne0 hN0 hf0 hrx hrl hnb htab hnx
          go_wp2_with fail
          refine (setsof A0 rx c0 _ HN0.out (by omega)).mono ?_
          rintro e w2 ⟨v, ys, rfl, hset, hown, hb⟩
          obtain ⟨A2, c2, hv2, _, _, _⟩ := own_row hown
          subst hv2
          have hcv : w2.cell? ⟨w1.heap.size, k, none⟩ = some (.slice A0 rx.length c0) := cell_later hb cv
          have T2 := Htab2.out.below hb
          have fz2 := T2.free k
          have gl2 : w1.heap.size < w2.heap.size := T2.lt
          have T3 := Htab2.out.put (w1 := w2) (lab' := relab lab (.slice A2 ys.length c2) 1 k) (ys := ys) (by rw [Hrl.out]; exact hlt) cv ⟨hb.os, hb.tape, hb.output, hb.size, fun j hj _ => hb.block j hj⟩ (own_mono hown Hnx2.out.size)
            (fun j hj => by
              unfold relab
              rw [if_neg]
              intro h
              have := (hown.lt j h).1
              omega) (fun j hj => relab_self _ _ _ _ _ hj)
          have HT3 := hid T3
          have Hset := hid hset
          have HB := hid (Hnx2.out.trans (hb.mono Hnx2.out.size))
          clear T2 T3 hset hown hb cv fz gl
          go_wp2
          go_roundw
          case rel =>
            have hR : NbRel2 w n E w1.heap.size (.int .i64 ((k + 1 : Nat) : Int)) (w2.setCell ⟨w1.heap.size, k, none⟩ (.slice A2 ys.length c2)) :=
              ⟨k + 1, _, _, by omega, rfl, Hnb2.out.step hlt (by rw [← Hrx.out]; exact Hset.out), HT3.out, HB.out.setCell (p := ⟨w1.heap.size, k, none⟩) Hb1.out.size _⟩
            first | exact hR | ((repeat apply Exists.intro); exact ⟨hR, rfl⟩)
          case measure => simp [intOf]; omega
        · have : k = n := by omega
          subst this
          clear hnb htab hnx
          go_wp2
          go_ret
          exact ⟨_, rows, rfl, Hnb2.out, ⟨lab, Htab2.out⟩, Hnx2.out⟩

end Go.Proofs.Ytpfjannhggcmiaa
