/- Contracts of order.Check and order.Ranks. -/
import Derived.Test.YtpfjannhggcmiaaNb
namespace Go.Proofs.Ytpfjannhggcmiaa
open Go.RowKit Go.Maps

/-- l lists the vertices below n, each once. -/
structure PermI (n : Int) (l : List Int) : Prop where
  rng : ∀ i, i < l.length → 0 ≤ l.getD i 0 ∧ l.getD i 0 < n
  inj : ∀ i j, i < j → j < l.length → l.getD i 0 ≠ l.getD j 0
  len : n ≤ (l.length : Int)

def seenF (l : List Int) (k v : Nat) : Option Value := if (v : Int) ∈ l.take k then some (.bool true) else none
theorem take_snocI (l : List Int) (k : Nat) (hk : k < l.length) : l.take (k + 1) = l.take k ++ [l.getD k 0] := take_snoc' l k hk 0
theorem seenF_step (l : List Int) (k x : Nat) (hk : k < l.length) (hx : l.getD k 0 = (x : Int)) : nput (seenF l k) x (.bool true) = seenF l (k + 1) := by
  funext v
  unfold nput seenF
  rw [take_snocI l k hk, hx]
  by_cases e : v = x
  · subst e; simp
  · rw [if_neg e]
    have : ¬ (v : Int) = (x : Int) := by omega
    simp [this]
theorem mem_take_iff (l : List Int) (k : Nat) (hk : k ≤ l.length) (x : Int) : x ∈ l.take k ↔ ∃ j, j < k ∧ l.getD j 0 = x := by
  rw [List.mem_take_iff_getElem]
  constructor
  · rintro ⟨i, hi, rfl⟩
    have : i < l.length := by omega
    exact ⟨i, by omega, by simp [List.getD, this]⟩
  · rintro ⟨j, hj, rfl⟩
    have : j < l.length := by omega
    exact ⟨j, by omega, by simp [List.getD, this]⟩

def OcRel (w : World) (n : Int) (l : List Int) (i : Value) (wr : World) : Prop :=
  ∃ k : Nat, k ≤ l.length ∧ i = .int .i64 k ∧ (∀ j, j < k → 0 ≤ l.getD j 0 ∧ l.getD j 0 < n) ∧ (∀ i j, i < j → j < k → l.getD i 0 ≠ l.getD j 0) ∧ NMap wr w.heap.size k (seenF l k) ∧ Below w.heap.size w wr
theorem zero_bool (w : World) : (zeroValue 4).run Try.prog w = .ok (.bool false) w := by kernel_rfl

set_option maxRecDepth 100000 in
set_option maxHeartbeats 4000000 in
theorem ordercheck (n : Nat) (A : Option Addr) (l : List Int) (c : Nat) (w : World) (hr : Ints w A l) (hn : n ≤ 1099511627776) (hl : l.length ≤ 1099511627776) :
    Calls Try.prog 67 #[.int .i64 (n : Int), .slice A l.length c] w (RetZero w (PermI n l)) := by
  have Hr := hid hr
  clear hr
  have hmm : ∀ W, (Instr.makeMap 97 none).run Try.prog W = .ok (.map (some W.heap.size)) (W.alloc (.map #[] 0)) := fun _ => rfl
  go_enter Try.func67, Try.ntmps67
  go_wp2
  go_loopw [11] (fun i wr => OcRel w n l i wr) (fun i _ => l.length - (intOf i).toNat)
  case atStart => exact ⟨0, Nat.zero_le _, rfl, fun j hj => by omega, fun i j _ hj => by omega, by
    have := NMap.made w
    have e : seenF l 0 = fun _ => none := by funext v; simp [seenF]
    rw [e]; exact this, below_alloc' (Below.refl _ _) _⟩
  case round =>
    obtain ⟨k, hk, rfl, hrng, hinj, hmap, hnx⟩ := hrel
    by_cases hlt : k < l.length
    · obtain ⟨b, o, rfl, hb, cx⟩ := Hr.out.at_ hlt
      obtain ⟨x, hx⟩ : ∃ x, l.getD k 0 = x := ⟨_, rfl⟩
      rw [hx] at cx
      replace cx := cell_later hnx cx
      have hbw : b < wr.heap.size := Nat.lt_of_lt_of_le hb hnx.size
      have Hx := hid hx
      have Hrng := hid hrng
      have Hinj := hid hinj
      have Hnx := hid hnx
      have Hmap := hid hmap
      clear hx hrng hinj hnx hmap
      by_cases h0 : x < 0
      · have hbad : Hid (¬ PermI n l) := fun h => by have := (h.rng k hlt).1; rw [Hx.out] at this; omega
        go_wp2
        go_ret
        exact ⟨2, rfl, ⟨fun h => by omega, fun h => absurd h hbad.out⟩, Hnx.out⟩
      · by_cases h1 : (n : Int) ≤ x
        · have hbad : Hid (¬ PermI n l) := fun h => by have := (h.rng k hlt).2; rw [Hx.out] at this; omega
          have h0' : 0 ≤ x := by omega
          go_wp2
          go_ret
          exact ⟨2, rfl, ⟨fun h => by omega, fun h => absurd h hbad.out⟩, Hnx.out⟩
        · obtain ⟨y, rfl⟩ : ∃ y : Nat, x = (y : Int) := ⟨x.toNat, by omega⟩
          have hyn : y < n := by omega
          clear h0 h1
          have g0 : decide ((y : Int) < 0) = false := decide_eq_false (by omega)
          have g1 : decide ((n : Int) ≤ (y : Int)) = false := decide_eq_false (by omega)
          have g2 : decide (n ≤ y) = false := decide_eq_false (by omega)
          have hlook := Hmap.out.look Try.underlying97 (zero_bool wr) false y (by omega)
          by_cases hs : (y : Int) ∈ l.take k
          · have hv : (seenF l k y).getD (.bool false) = .bool true := by simp [seenF, hs]
            have hbad : Hid (¬ PermI n l) := fun h => by
              obtain ⟨j, hj, he⟩ := (mem_take_iff l k hk _).1 hs
              exact h.inj j k hj hlt (by rw [he, Hx.out])
            simp only [hv, Bool.false_eq_true, if_false] at hlook
            clear hv hs
            go_wp2
            go_ret
            exact ⟨7, rfl, ⟨fun h => by omega, fun h => absurd h hbad.out⟩, Hnx.out⟩
          · have hv : (seenF l k y).getD (.bool false) = .bool false := by simp [seenF, hs]
            have hnew : Hid (∀ j, j < k → l.getD j 0 ≠ (y : Int)) := fun j hj he => hs ((mem_take_iff l k hk _).2 ⟨j, hj, he⟩)
            simp only [hv, Bool.false_eq_true, if_false] at hlook
            clear hv hs
            go_wp2_with (first | (refine wp_storeN _ rfl _ _ _ 97 rfl 4 Try.underlying97 w.heap.size k (seenF l k) rfl Hmap.out (by omega) y (by omega) rfl (.bool true) rfl ?_; intro w2 hm2 hg2))
            rw [seenF_step l k y hlt Hx.out] at hm2
            have Hm2 := hid hm2
            have Hb2 : Hid (Below w.heap.size w w2) := Hnx.out.grown hg2 Hnx.out.size (fun j hj => by cases hj; exact Nat.le_refl _)
            clear hm2 hg2 hlook
            go_roundw
            case rel =>
              have hR : OcRel w n l (.int .i64 ((k + 1 : Nat) : Int)) w2 := ⟨k + 1, by omega, rfl, fun j hj => by
                by_cases e : j = k
                · rw [e, Hx.out]; omega
                · exact Hrng.out j (by omega), fun i j hij hj => by
                  by_cases e : j = k
                  · rw [e, Hx.out]; exact hnew.out i (by omega)
                  · exact Hinj.out i j hij (by omega), Hm2.out, Hb2.out⟩
              first | exact hR | ((repeat apply Exists.intro); exact ⟨hR, rfl⟩)
            case measure => simp [intOf]; omega
    · have : k = l.length := by omega
      subst this
      have Hnx := hid hnx
      by_cases hs : l.length < n
      · have hbad : Hid (¬ PermI n l) := fun h => by have := h.len; omega
        clear hrng hinj hmap hnx
        go_wp2
        go_ret
        exact ⟨12, rfl, ⟨fun h => by omega, fun h => absurd h hbad.out⟩, Hnx.out⟩
      · have hgood : Hid (PermI n l) := ⟨hrng, hinj, by omega⟩
        have hs' : n ≤ l.length := by omega
        clear hrng hinj hmap hnx hs
        go_wp2
        go_ret
        exact ⟨0, rfl, ⟨fun _ => hgood.out, fun _ => rfl⟩, Hnx.out⟩

/-! ### permutations of numbers -/
/-- order lists the numbers below n, each once; ranks are the places in it. -/
structure PermN (n : Nat) (order ranks : List Nat) : Prop where
  olen : order.length = n
  rlen : ranks.length = n
  olt : ∀ i, i < n → order.getD i 0 < n
  rlt : ∀ v, v < n → ranks.getD v 0 < n
  ro : ∀ i, i < n → ranks.getD (order.getD i 0) 0 = i
  or : ∀ v, v < n → order.getD (ranks.getD v 0) 0 = v

/-- An injective list of length n of numbers below n hits every number. -/
theorem inj_onto (n : Nat) (l : List Nat) (hl : l.length = n) (hlt : ∀ x ∈ l, x < n) (hn : l.Nodup) : ∀ v, v < n → v ∈ l := by
  induction n generalizing l with
  | zero => intro v hv; omega
  | succ n ih =>
    have key : n ∈ l := by
      apply Classical.byContradiction
      intro hno
      have h1 : ∀ x ∈ l, x < n := fun x hx => by
        have := hlt x hx
        have : x ≠ n := fun e => hno (e ▸ hx)
        omega
      cases l with
      | nil => simp at hl
      | cons a l =>
        rw [List.nodup_cons] at hn
        have h2 : l.length = n := by simpa using hl
        have := ih l h2 (fun x hx => h1 x (List.mem_cons_of_mem _ hx)) hn.2 a (h1 a (by simp))
        exact hn.1 this
    have h3 : (l.erase n).length = n := by rw [List.length_erase_of_mem key]; omega
    have h4 : ∀ x ∈ l.erase n, x < n := fun x hx => by
      have h5 := (List.Nodup.mem_erase_iff hn).1 hx
      have := hlt x h5.2
      omega
    intro v hv
    by_cases e : v = n
    · rw [e]; exact key
    · exact List.mem_of_mem_erase (ih (l.erase n) h3 h4 (hn.erase n) v (by omega))

theorem PermI.nats {n : Nat} {l : List Int} (h : PermI n l) : ∃ order : List Nat, l = ofNats order ∧ order.length = n ∧ (∀ x ∈ order, x < n) ∧ order.Nodup := by
  have hnn : ∀ x ∈ l, 0 ≤ x ∧ x < n := fun x hx => by
    obtain ⟨i, hi, rfl⟩ := List.getElem_of_mem hx
    have := h.rng i hi
    simpa [List.getD, hi] using this
  have e := ofNats_toNat (fun x hx => (hnn x hx).1)
  have hnd : (l.map Int.toNat).Nodup := by
    rw [List.nodup_iff_pairwise_ne, List.pairwise_map, List.pairwise_iff_getElem]
    intro i j hi hj hij
    have h1 := h.inj i j hij hj
    have h2 := h.rng i hi
    have h3 := h.rng j hj
    simp [List.getD, hi, hj] at h1 h2 h3
    omega
  have hlt : ∀ x ∈ l.map Int.toNat, x < n := fun x hx => by
    obtain ⟨y, hy, rfl⟩ := List.mem_map.1 hx
    have := hnn y hy
    omega
  refine ⟨l.map Int.toNat, e.symm, ?_, hlt, hnd⟩
  have h1 : n ≤ (l.map Int.toNat).length := by simp; have := h.len; omega
  apply Nat.le_antisymm _ h1
  -- no more than n different numbers below n
  have : ∀ (n : Nat) (l : List Nat), l.Nodup → (∀ x ∈ l, x < n) → l.length ≤ n := by
    intro n
    induction n with
    | zero => intro l _ hl; cases l with
      | nil => simp
      | cons a l => exact absurd (hl a (by simp)) (by omega)
    | succ n ih =>
      intro l hd hl
      have h2 := ih (l.erase n) (hd.erase n) (fun x hx => by
        have h5 := (List.Nodup.mem_erase_iff hd).1 hx
        have := hl x h5.2
        omega)
      have := List.length_erase (a := n) (l := l)
      split at this <;> omega
  exact this n _ hnd hlt

/-- The ranks of an order: the k first places. -/
def rankStep (ranks : List Nat) (order : List Nat) (k : Nat) : List Nat := ranks.set (order.getD k 0) k
structure RkInv (n : Nat) (order : List Nat) (k : Nat) (ranks : List Nat) : Prop where
  len : ranks.length = n
  ro : ∀ i, i < k → ranks.getD (order.getD i 0) 0 = i
theorem nodup_getD {l : List Nat} (h : l.Nodup) {i j : Nat} (hi : i < l.length) (hj : j < l.length) (he : l.getD i 0 = l.getD j 0) : i = j := by
  simp [List.getD, hi, hj] at he
  rw [List.nodup_iff_pairwise_ne, List.pairwise_iff_getElem] at h
  rcases Nat.lt_trichotomy i j with h1 | h1 | h1
  · exact absurd he (h i j hi hj h1)
  · exact h1
  · exact absurd he.symm (h j i hj hi h1)
theorem RkInv.step {n k : Nat} {order ranks : List Nat} (h : RkInv n order k ranks) (ho : order.length = n) (hlt : ∀ x ∈ order, x < n) (hd : order.Nodup) (hk : k < n) : RkInv n order (k + 1) (rankStep ranks order k) where
  len := by simp [rankStep, h.len]
  ro := fun i hi => by
    have hl := h.len
    have hkl : order.getD k 0 < n := hlt _ (by rw [List.getD, List.getElem?_eq_getElem (by omega)]; exact List.getElem_mem _)
    unfold rankStep
    by_cases e : i = k
    · subst e
      rw [getD_set_self _ _ _ _ (by omega)]
    · rw [getD_set_ne _ _ _ _ _ (fun h' => e (nodup_getD hd (by omega) (by omega) h').symm)]
      exact h.ro i (by omega)
theorem RkInv.perm {n : Nat} {order ranks : List Nat} (h : RkInv n order n ranks) (ho : order.length = n) (hlt : ∀ x ∈ order, x < n) (hd : order.Nodup) : PermN n order ranks := by
  have hmem : ∀ v, v < n → ∃ i, i < n ∧ order.getD i 0 = v := fun v hv => by
    obtain ⟨i, hi, he⟩ := List.getElem_of_mem (inj_onto n order ho hlt hd v hv)
    exact ⟨i, by omega, by simp [List.getD, hi, he]⟩
  have hro : ∀ v, v < n → ranks.getD v 0 < n ∧ order.getD (ranks.getD v 0) 0 = v := fun v hv => by
    obtain ⟨i, hi, rfl⟩ := hmem v hv
    rw [h.ro i hi]
    exact ⟨hi, rfl⟩
  exact ⟨ho, h.len, fun i hi => hlt _ (by rw [List.getD, List.getElem?_eq_getElem (by omega)]; exact List.getElem_mem _), fun v hv => (hro v hv).1, h.ro, fun v hv => (hro v hv).2⟩

/-! ### order.Ranks -/
theorem ints_nats {w : World} {A : Option Addr} {xs : List Nat} : Ints w A (ofNats xs) ↔ Nats w A xs := by
  unfold Ints Nats Row ofNats
  simp only [List.length_map]
  have : ∀ i, i < xs.length → intc (xs.map fun (x : Nat) => (x : Int)) i = natc xs i := fun i hi => by simp [intc, natc, List.getD, hi]
  constructor
  · rintro (h | ⟨b, o, hA, hb, hc⟩)
    · exact .inl h
    · exact .inr ⟨b, o, hA, hb, fun i hi => (hc i hi).trans (by rw [this i hi])⟩
  · rintro (h | ⟨b, o, hA, hb, hc⟩)
    · exact .inl h
    · exact .inr ⟨b, o, hA, hb, fun i hi => (hc i hi).trans (by rw [this i hi])⟩

/-- A block of numbers that the call has made. -/
def RkRel (w : World) (n g : Nat) (order : List Nat) (i : Value) (wr : World) : Prop :=
  ∃ (k : Nat) (ranks : List Nat), k ≤ n ∧ i = .int .i64 k ∧ RkInv n order k ranks ∧ wr.heap[g]? = some (.cells (ranks.map natv).toArray 3 (0, 0)) ∧ Below w.heap.size w wr
/-- The ranks are returned. -/
def RetRanks (w : World) (n : Nat) (order : List Nat) (en : Ending) (w' : World) : Prop :=
  ∃ g ranks, en = .returned (.slice (some ⟨g, 0, none⟩) n n) ∧ PermN n order ranks ∧ w.heap.size ≤ g ∧ w'.heap[g]? = some (.cells (ranks.map natv).toArray 3 (0, 0)) ∧ Below w.heap.size w w'

set_option maxRecDepth 100000 in
set_option maxHeartbeats 4000000 in
theorem ranks_any (n : Nat) (A : Option Addr) (order : List Nat) (c : Nat) (w : World) (hr : Nats w A order) (hn : n ≤ 1048576) (hol : order.length = n) (hlt : ∀ x ∈ order, x < n) (hd : order.Nodup) :
    Calls Try.prog 70 #[.slice A n c] w (RetRanks w n order) := by
  have Hr := hid hr
  have Hlt := hid hlt
  have Hd := hid hd
  have Hol := hid hol
  have hofl : (ofNats order).length = n := by simp [ofNats, hol]
  have hperm : Hid (PermI n (ofNats order)) := by
    refine ⟨fun i hi => ?_, fun i j hij hj => ?_, by rw [hofl]; omega⟩
    · rw [hofl] at hi
      have h1 : i < order.length := by omega
      have := hlt _ (List.getElem_mem h1)
      simp [ofNats, List.getD, h1]
      omega
    · rw [hofl] at hj
      have h1 : i < order.length := by omega
      have h2 : j < order.length := by omega
      have := fun h => nodup_getD hd h1 h2 h
      simp [ofNats, List.getD, h1, h2] at this ⊢
      omega
  have hmk := run_make_ints n (by omega)
  have hoc := ordercheck n A (ofNats order) c w (ints_nats.2 hr) (by omega) (by omega)
  rw [hofl] at hoc
  have Hoc := hid hoc
  clear hr hlt hd hol hofl hoc
  go_enter Try.func70, Try.ntmps70
  go_wp2_with fail
  refine Hoc.out.mono ?_
  rintro e w1 ⟨r, rfl, hr0, hb⟩
  obtain rfl : r = 0 := hr0.2 hperm.out
  have Hb1 := hid hb
  clear hr0 hb
  go_wp2
  go_loopw [16] (fun i wr => RkRel w n w1.heap.size order i wr) (fun i _ => n - (intOf i).toNat)
  case atStart => exact ⟨0, List.replicate n 0, Nat.zero_le _, rfl, ⟨by simp, fun i hi => by omega⟩, by simpa [natv] using new_blk w1 (Array.replicate n (.int .i64 0)) 3, below_alloc' Hb1.out _⟩
  case round =>
    obtain ⟨k, ranks, hk, rfl, hinv, hblk, hnx⟩ := hrel
    have Hinv := hid hinv
    have Hblk := hid hblk
    have Hnx := hid hnx
    by_cases hlt : k < n
    · obtain ⟨b, o, rfl, hb, cx⟩ := Hr.out.at_ (k := k) (by rw [Hol.out]; exact hlt)
      obtain ⟨x, hx⟩ : ∃ x, order.getD k 0 = x := ⟨_, rfl⟩
      have hxn : x < n := by rw [← hx]; exact Hlt.out _ (by have := Hol.out; rw [List.getD, List.getElem?_eq_getElem (by omega)]; exact List.getElem_mem _)
      rw [hx] at cx
      replace cx := cell_later hnx cx
      have hbw : b < wr.heap.size := Nat.lt_of_lt_of_le hb hnx.size
      have hgl := blk_lt' hblk
      have cg : wr.cell? ⟨w1.heap.size, x, none⟩ = some (natv (ranks.getD x 0)) := by
        rw [blk_cell' hblk]
        have : x < ranks.length := by rw [hinv.len]; exact hxn
        simp [List.getD, this]
      have fg := blk_free hblk x
      have Hx := hid hx
      clear hx hinv hblk hnx
      go_wp2
      go_roundw
      case rel =>
        have hR : RkRel w n w1.heap.size order (.int .i64 ((k + 1 : Nat) : Int)) (wr.setCell ⟨w1.heap.size, x, none⟩ (.int .i64 (k : Int))) := by
          refine ⟨k + 1, _, by omega, rfl, Hinv.out.step Hol.out Hlt.out Hd.out hlt, ?_, Hnx.out.setCell Hb1.out.size _⟩
          have := blk_set' Hblk.out x (.int .i64 (k : Int))
          unfold rankStep
          rw [Hx.out]
          simpa [natv] using this
        first | exact hR | ((repeat apply Exists.intro); exact ⟨hR, rfl⟩)
      case measure => simp [intOf]; omega
    · have : k = n := by omega
      subst this
      clear hinv hblk hnx
      go_wp2
      go_ret
      exact ⟨_, ranks, rfl, Hinv.out.perm Hol.out Hlt.out Hd.out, Hb1.out.size, Hblk.out, Hnx.out⟩
theorem blk_nats {w : World} {g : Nat} {xs : List Nat} {t : TypeId} {fr : Nat × Nat} (h : w.heap[g]? = some (.cells (xs.map natv).toArray t fr)) : Nats w (some ⟨g, 0, none⟩) xs := by
  refine .inr ⟨_, 0, rfl, blk_lt' h, fun i hi => ?_⟩
  rw [blk_cell' h]
  simp [natc, natv, List.getD, hi]

end Go.Proofs.Ytpfjannhggcmiaa
