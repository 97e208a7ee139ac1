/- Contract of sets.Of: the sorted list of the different elements, in a row of the caller's own. -/
import Derived.Test.YtpfjannhggcmiaaRef3
import Derived.Test.YtpfjannhggcmiaaShelf
import Derived.Sort.OwnSortedInts
import Derived.Lib.OwnBridge
namespace Go.Proofs.Ytpfjannhggcmiaa
open Go.RowKit Go.Maps

/-- ys are the different elements of xs, ascending. -/
structure SetOf (xs ys : List Nat) : Prop where
  sorted : ys.Pairwise (· < ·)
  mem : ∀ x, x ∈ ys ↔ x ∈ xs

theorem compact_upto (d : Array Int) (hs : ∀ i j, i < j → j < d.size → d[i]! ≤ d[j]!) (m : Nat) (hm : m ≤ d.size) :
    (Lib.compactUpTo d m).Pairwise (· < ·) ∧ (∀ x, x ∈ Lib.compactUpTo d m ↔ ∃ j, j < m ∧ x = d[j]!) := by
  induction m with
  | zero => simp [Lib.compactUpTo]
  | succ m ih =>
    obtain ⟨h1, h2⟩ := ih (by omega)
    rw [Lib.compactUpTo_succ]
    by_cases hk : Lib.keeps d m = true
    · rw [if_pos hk]
      constructor
      · rw [List.pairwise_append]
        refine ⟨h1, by simp, fun x hx y hy => ?_⟩
        simp at hy
        subst hy
        obtain ⟨j, hj, rfl⟩ := (h2 x).1 hx
        simp [Lib.keeps] at hk
        rcases hk with hk | hk
        · omega
        · have e1 : d[m-1]! ≤ d[m]! := hs (m - 1) m (by omega) (by omega)
          have e2 : d[j]! ≤ d[m-1]! := by
            by_cases e : j = m - 1
            · rw [e]; exact Int.le_refl _
            · exact hs j (m - 1) (by omega) (by omega)
          simp [hj] at *
          omega
      · intro x
        rw [List.mem_append, h2]
        constructor
        · rintro (⟨j, hj, rfl⟩ | h)
          · exact ⟨j, by omega, rfl⟩
          · simp only [List.mem_singleton] at h; exact ⟨m, by omega, h⟩
        · rintro ⟨j, hj, rfl⟩
          by_cases e : j = m
          · right; rw [e]; simp
          · left; exact ⟨j, by omega, rfl⟩
    · rw [if_neg hk]
      simp only [List.append_nil]
      refine ⟨h1, fun x => ?_⟩
      rw [h2]
      constructor
      · rintro ⟨j, hj, rfl⟩; exact ⟨j, by omega, rfl⟩
      · rintro ⟨j, hj, rfl⟩
        by_cases e : j = m
        · subst e
          have hk' : j ≠ 0 ∧ d[j]! = d[j-1]! := by
            unfold Lib.keeps at hk
            by_cases h0 : j = 0
            · simp [h0] at hk
            · by_cases h3 : d[j]! = d[j-1]!
              · exact ⟨h0, h3⟩
              · exact absurd (decide_eq_true (Or.inr h3)) hk
          exact ⟨j - 1, by omega, hk'.2⟩
        · exact ⟨j, by omega, rfl⟩

theorem pairwise_getElem! {d : List Int} (h : d.Pairwise (· ≤ ·)) : ∀ i j, i < j → j < d.toArray.size → d.toArray[i]! ≤ d.toArray[j]! := by
  intro i j hij hj
  have hj' : j < d.length := by simpa using hj
  have hi' : i < d.length := by omega
  have := List.pairwise_iff_getElem.1 h i j hi' hj' hij
  simpa [getElem!_pos, hi', hj'] using this

def ofNats (xs : List Nat) : List Int := xs.map fun (x : Nat) => ((x : Nat) : Int)
theorem ofNats_toNat {zs : List Int} (h : ∀ x ∈ zs, 0 ≤ x) : ofNats (zs.map Int.toNat) = zs := by
  unfold ofNats
  rw [List.map_map]
  conv => rhs; rw [← List.map_id zs]
  apply List.map_congr_left
  intro x hx
  have := h x hx
  simp
  omega
theorem map_natv_ofNats (xs : List Nat) : (ofNats xs).map (Value.int .i64) = xs.map natv := by simp [ofNats, natv, List.map_map, Function.comp_def]
theorem setOf_compact (xs : List Nat) : ∃ ys, SetOf xs ys ∧ ofNats ys = Lib.compact ((ofNats xs).mergeSort fun x y => decide (x ≤ y)) := by
  have hs : ((ofNats xs).mergeSort fun x y => decide (x ≤ y)).Pairwise (· ≤ ·) := by
    have := List.pairwise_mergeSort (le := fun (x y : Int) => decide (x ≤ y)) (fun a b c h1 h2 => by simp at *; omega) (fun a b => by simp; omega) (ofNats xs)
    exact this.imp (by simp)
  obtain ⟨zs, hz⟩ : ∃ zs, zs = (ofNats xs).mergeSort fun x y => decide (x ≤ y) := ⟨_, rfl⟩
  rw [← hz] at hs ⊢
  have hmem : ∀ x, x ∈ zs ↔ x ∈ ofNats xs := fun x => by rw [hz]; exact List.mem_mergeSort
  obtain ⟨h1, h2⟩ := compact_upto zs.toArray (pairwise_getElem! hs) zs.length (by simp)
  have h3 : ∀ x, x ∈ Lib.compact zs ↔ x ∈ ofNats xs := by
    intro x
    rw [← hmem]
    unfold Lib.compact
    rw [h2]
    constructor
    · rintro ⟨j, hj, rfl⟩
      simp [getElem!_pos, hj]
    · intro hx
      obtain ⟨j, hj, rfl⟩ := List.getElem_of_mem hx
      exact ⟨j, hj, by simp [getElem!_pos, hj]⟩
  have hnn : ∀ x ∈ Lib.compact zs, 0 ≤ x := by
    intro x hx
    have := (h3 x).1 hx
    simp [ofNats] at this
    obtain ⟨a, _, rfl⟩ := this
    omega
  refine ⟨(Lib.compact zs).map Int.toNat, ⟨?_, ?_⟩, ofNats_toNat hnn⟩
  · rw [List.pairwise_map]
    refine List.Pairwise.imp_of_mem ?_ (show (Lib.compact zs).Pairwise (· < ·) from h1)
    intro a b ha hb hab
    have := hnn a ha
    have := hnn b hb
    omega
  · intro x
    rw [List.mem_map]
    constructor
    · rintro ⟨a, ha, rfl⟩
      have := (h3 a).1 ha
      simp [ofNats] at this
      obtain ⟨b, hb, rfl⟩ := this
      simpa using hb
    · intro hx
      exact ⟨((x : Nat) : Int), (h3 _).2 (List.mem_map.2 ⟨x, hx, rfl⟩), by simp⟩

/-- A new row with the different elements is returned, owned by the caller. -/
def RetSet (w : World) (xs : List Nat) (en : Ending) (w' : World) : Prop :=
  ∃ v ys, en = .returned v ∧ SetOf xs ys ∧ w'.ownsRow w.heap.size 3 1 v ys.length (ys.map natv) ∧ Below w.heap.size w w'

/-- The end: from what the three callees leave. -/
theorem set_end {w w1 : World} {g cap nn q : Nat} {os : Array Obj} {xs : List Nat} (hown : w1.ownsRow w.heap.size 3 1 (.slice (some ⟨g, 0, none⟩) xs.length cap) xs.length ((ofNats xs).map (Value.int .i64))) (hbel : Below w.heap.size w w1) :
    RetSet w xs (.returned (.slice (some ⟨g, 0, none⟩) (Lib.compact ((ofNats xs).mergeSort fun x y => decide (x ≤ y))).length cap))
      (Sort.putRow (Value.int .i64) (Sort.ahead (Sort.grow (Sort.putRow (Value.int .i64) (Sort.ahead w1 nn) g 0 ((ofNats xs).mergeSort fun x y => decide (x ≤ y)).toArray) os) q) g 0 (Lib.compact ((ofNats xs).mergeSort fun x y => decide (x ≤ y)) ++ List.replicate (xs.length - (Lib.compact ((ofNats xs).mergeSort fun x y => decide (x ≤ y))).length) 0).toArray) := by
  obtain ⟨ys, hset, hys⟩ := setOf_compact xs
  have hl0 : (ofNats xs).length = xs.length := by simp [ofNats]
  have hl2 : ((ofNats xs).mergeSort fun x y => decide (x ≤ y)).length = xs.length := by rw [List.length_mergeSort, hl0]
  have hle := Lib.compact_length_le ((ofNats xs).mergeSort fun x y => decide (x ≤ y))
  have hbg := (own_lt2 hown).2
  rcases hown.2 with ⟨h0, _⟩ | ⟨g', cap', cur, hv, hbase, hb, h1, h2, h3, h4⟩
  · cases h0
  cases hv
  have hs := ownsRow_sortedI (n := nn) (os := os) (ss := ofNats xs) (ts := (ofNats xs).mergeSort fun x y => decide (x ≤ y)) (by rw [hl2, hl0]) hbase hb (by rw [hl0]; exact h1) h2 h3
  rw [hl0] at hs
  have hc := Lib.ownsRow_putRow (q := q) (k := (Lib.compact ((ofNats xs).mergeSort fun x y => decide (x ≤ y))).length) (ys := Lib.compact ((ofNats xs).mergeSort fun x y => decide (x ≤ y)) ++ List.replicate (xs.length - (Lib.compact ((ofNats xs).mergeSort fun x y => decide (x ≤ y))).length) 0) hs (by simp; omega) (by omega)
  rw [List.take_left, ← hys, map_natv_ofNats] at hc
  have hl3 : (ofNats ys).length = ys.length := by simp [ofNats]
  rw [hl3] at hc
  refine ⟨_, ys, rfl, hset, ?_, Lib.below_putRow (hbel.grown (grownBy_sortedI _) hbel.size (fun j hj => by cases hj; exact hbase)) hbg⟩
  rw [← hys, hl3]
  exact hc

set_option maxHeartbeats 4000000 in
theorem setsof (A : Option Addr) (xs : List Nat) (c : Nat) (w : World) (hr : Nats w A xs) (hn : xs.length ≤ 1099511627776) :
    Calls Try.prog 93 #[.slice A xs.length c] w (RetSet w xs) := by
  have Hr := hid hr
  have hl0 : (ofNats xs).length = xs.length := by simp [ofNats]
  have hl2 : ((ofNats xs).mergeSort fun x y => decide (x ≤ y)).length = xs.length := by rw [List.length_mergeSort, hl0]
  have hcl := clone_int A xs.length c (natc xs) w hr (fun _ _ => rfl) (by omega)
  rw [range_map_nats] at hcl
  have Hcl := hid hcl
  clear hr hcl
  by_cases h0 : xs.length = 0
  · obtain rfl : xs = [] := List.length_eq_zero_iff.1 h0
    clear hl0 h0 hl2 hn
    go_enter Try.func93, Try.ntmps93
    go_wp2_with fail
    refine Hcl.out.mono ?_
    rintro e w1 ⟨v, rfl, hown, hb⟩
    obtain ⟨A', c', rfl, _, _, _⟩ := own_row hown
    have Hown := hid hown
    have Hb := hid hb
    clear hown hb
    go_wp2_with (first
      | (go_at_call 105; refine (Try.slices_Sort_int_none _ _ _).mono ?_; rintro e w2 ⟨rfl, rfl⟩)
      | (go_at_call 106; refine (Try.slices_Compact_int_empty _ _ _).mono ?_; rintro e w2 ⟨rfl, rfl⟩))
    go_ret
    exact ⟨_, [], rfl, ⟨by simp, by simp⟩, Hown.out, Hb.out⟩
  · go_enter Try.func93, Try.ntmps93
    go_wp2_with fail
    refine Hcl.out.mono ?_
    rintro e w1 ⟨v, rfl, hown, hb⟩
    rw [← map_natv_ofNats] at hown
    have hnn : v ≠ .slice none 0 0 := by
      rintro rfl
      obtain ⟨A', c', h, _⟩ := own_row hown
      injection h with _ h
      omega
    obtain ⟨g, cap, rfl, hbg, hgl, hncap, hcm, hlen, hH⟩ := Lib.holds_of_ownsRow hown hnn
    have Hown := hid hown
    have Hb := hid hb
    have hsort := Try.slices_Sort_int g 0 cap (ofNats xs) w1 hH hgl (by omega)
    rw [hl0] at hsort
    have HH := hid hH
    clear hown hb hH hnn
    go_wp2_with fail
    refine hsort.mono ?_
    rintro e w2 ⟨rfl, nn, os, rfl⟩
    have hH2 : Sort.Holds (Value.int .i64) (Sort.grow (Sort.putRow (Value.int .i64) (Sort.ahead w1 nn) g 0 ((ofNats xs).mergeSort fun x y => decide (x ≤ y)).toArray) os) g 0 ((ofNats xs).mergeSort fun x y => decide (x ≤ y)).toArray :=
      Sort.holds_grow (Value.int .i64) _ os g 0 _ (by simpa [Sort.putRow, Sort.mapBlock, Sort.ahead] using hgl) (Sort.holds_putRow (Value.int .i64) _ g 0 _ _ (Sort.holds_ahead (Value.int .i64) w1 nn g 0 _ HH.out) (by simp [hl2, hl0]))
    have hcomp := Try.slices_Compact_int g 0 cap ((ofNats xs).mergeSort fun x y => decide (x ≤ y)) _ hH2 (by omega) (by omega)
    rw [hl2] at hcomp
    clear hH2 hsort
    go_wp2_with fail
    refine hcomp.mono ?_
    rintro e w3 ⟨rfl, q, rfl⟩
    go_wp2
    go_ret
    exact set_end Hown.out Hb.out

end Go.Proofs.Ytpfjannhggcmiaa
