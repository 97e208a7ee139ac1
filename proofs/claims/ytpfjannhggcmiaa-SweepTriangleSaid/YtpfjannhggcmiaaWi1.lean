/- Contract of slices.SortStableFunc on at most 19 reached vertices, by their costs. -/
import Derived.Test.YtpfjannhggcmiaaSw4
import Derived.Test.YtpfjannhggcmiaaSrt
import Derived.Test.YtpfjannhggcmiaaShelf2
import Derived.Shelf.SlSortCmp.InsertionK
import Derived.Lib.OwnBridge
namespace Go.Proofs.Ytpfjannhggcmiaa
open Go.RowKit Go.Maps Go.Lib Go.Sort

theorem ltOf_cost (x y : Nat × Int) : ltOf (fun x y : Nat × Int => Lib.compareInt x.2 y.2) x y = decide (x.2 < y.2) := by
  unfold ltOf Lib.compareInt
  by_cases h : x.2 < y.2
  · simp [h]
  · by_cases h2 : x.2 > y.2
    · simp [h, h2]
    · simp [h, h2]
set_option maxHeartbeats 1000000 in
theorem closure47 (x y : Nat × Int) (W : World) : Calls Try.prog 47 #[.agg (pairv x).toArray, .agg (pairv y).toArray] W fun e w' => e = .returned (.int .i64 (Lib.compareInt x.2 y.2)) ∧ ∃ q os', w' = grow (W.drewN q) os' := by
  show Calls Try.prog 47 #[.agg #[.int .i64 (x.1 : Int), .int .i64 x.2], .agg #[.int .i64 (y.1 : Int), .int .i64 y.2]] W _
  have hcon := fun W' => Try.cmp_Compare_int x.2 y.2 W'
  generalize Lib.compareInt x.2 y.2 = r at hcon ⊢
  go_enter Try.func47, Try.ntmps47
  go_wp2_with (go_at_call 48; refine (hcon _).mono ?_; rintro e w' ⟨rfl, rfl⟩)
  go_ret
  exact ⟨rfl, 0, _, by rw [alloc_eq_grow, alloc_eq_grow, grow_grow]; rfl⟩
theorem cmpLays47 (blk off size : Nat) (w : World) : CmpLays Try.prog 47 #[] pairv 2 (fun x y => Lib.compareInt x.2 y.2) blk off size w :=
  fun _ _ _ _ x y => closure47 x y _

theorem own_holdsK {w : World} {base g cap : Nat} {e : TypeId} {L : List (Nat × Int)} (h : w.ownsRow base e 2 (.slice (some ⟨g, 0, none⟩) L.length cap) L.length (L.flatMap pairv)) : HoldsK pairv 2 w g 0 L.toArray := by
  obtain ⟨_, ⟨hno, _⟩ | ⟨g', cap', cur, hv, hb, hh, hn, hc, hs, hx⟩⟩ := h
  · cases hno
  · cases hv
    have key : ∀ i c, i < L.length → c < 2 → (L.flatMap pairv)[i * 2 + c]? = some ((pairv L[i]!)[c]!) := fun i c hi hc2 => by
      obtain ⟨h1, h2⟩ := pflat_at L i hi
      rcases (by omega : c = 0 ∨ c = 1) with rfl | rfl
      · rw [Nat.add_zero, h1]; simp [pairv, List.getD, hi]
      · rw [h2]; simp [pairv, List.getD, hi]
    intro j hj
    have hj' : j < L.length * 2 := by simpa using hj
    rw [get_flatK _ _ _ _ (by simpa using hj')]
    refine ⟨?_, blk_free hh _⟩
    rw [blk_cell' hh]
    have h3 := key (j / 2) (j % 2) (by omega) (by omega)
    have e1 : j / 2 * 2 + j % 2 = j := by omega
    rw [e1, ← hx, List.getElem?_take, if_pos hj'] at h3
    rw [Nat.zero_add]
    simp at h3 ⊢
    exact h3
theorem below_grow {B : Nat} {w0 w : World} (h : Go.RowKit.Below B w0 w) (os : Array Obj) (hs : B ≤ w.heap.size) : Go.RowKit.Below B w0 (grow w os) :=
  ⟨h.os, h.tape, h.output, by simp [grow]; have := h.size; omega, fun k hk => by
    have := h.block k hk
    simp only [grow]
    rw [Array.getElem?_append_left (by omega)]
    exact this⟩
theorem pairs_holdsK {w : World} {g : Nat} {d : Array (Nat × Int)} (h : HoldsK pairv 2 w g 0 d) (hg : g < w.heap.size) : Pairs w (some ⟨g, 0, none⟩) d.toList := by
  refine .inr ⟨g, 0, rfl, hg, fun i hi => ?_⟩
  have hi' : i < d.size := by simpa using hi
  have h0 := (h.cell hi' (show 0 < 2 by omega)).1
  have h1 := (h.cell hi' (show 1 < 2 by omega)).1
  have e : d.toList.getD i (0, 0) = d[i]! := by simp [List.getD, hi']
  rw [e]
  exact ⟨h0, h1⟩

def RetSorted (w : World) (base g : Nat) (L : List (Nat × Int)) (en : Ending) (w' : World) : Prop :=
  en = .returned (.tuple #[]) ∧ Pairs w' (some ⟨g, 0, none⟩) (sSort (fun p : Nat × Int => p.2) L) ∧ Go.RowKit.Below base w w'
theorem isort_reached {w : World} {base g cap : Nat} {L : List (Nat × Int)} (h : w.ownsRow base 79 2 (.slice (some ⟨g, 0, none⟩) L.length cap) L.length (L.flatMap pairv)) (hl : L.length < 1048576) :
    Calls Try.prog 100 #[.slice (some ⟨g, 0, none⟩) L.length cap, .int .i64 ((0 : Nat) : Int), .int .i64 (L.length : Int), .func (.func 47) #[] #[]] w (RetSorted w base g L) := by
  have hlt := own_lt (g := 0) h
  have hH := own_holdsK h
  have eg : ∀ args w, (callFunc 47 args).run Try.prog w = .ok (.enter 47 args) w := enters_of Try.func47 (by kernel_rfl) rfl
  have hcon := AnyQ.insertionSortCmpFunc Try.insReached 2 Try.isAgg79 Try.sizeOf79 pairv (fun _ => rfl) (fun x v hv => by simp [pairv] at hv; rcases hv with rfl | rfl <;> rfl) (fun x y => Lib.compareInt x.2 y.2) 47 #[] g 0 cap 0 L.toArray.size L.toArray w eg (cmpLays47 g 0 L.toArray.size w) hH hlt.1 (Nat.zero_le _) (Nat.le_refl _) (by simp; omega)
  change Calls Try.prog 100 _ _ _ at hcon
  have e1 : L.toArray.size = L.length := by simp
  rw [e1] at hcon
  refine hcon.mono ?_
  rintro en w' ⟨rfl, m, os, rfl⟩
  have hsz : (Sort.insertionSort (ltOf fun x y : Nat × Int => Lib.compareInt x.2 y.2) L.toArray 0 L.length).toList = sSort (fun p : Nat × Int => p.2) L := by
    have := insertion_list (lt := ltOf fun x y : Nat × Int => Lib.compareInt x.2 y.2) (key := fun p : Nat × Int => p.2) (fun x y => ltOf_cost x y) L.toArray
    rw [e1] at this
    simpa using this
  have hss : (Sort.insertionSort (ltOf fun x y : Nat × Int => Lib.compareInt x.2 y.2) L.toArray 0 L.length).size = L.toArray.size := by
    rw [← Array.length_toList, hsz, sSort_len]; simp
  refine ⟨rfl, ?_, ?_⟩
  · rw [← hsz]
    exact pairs_holdsK (holdsK_sortWorldK_c pairv 2 w g 0 L.toArray _ m os hH hlt.1 hss) (Nat.lt_of_lt_of_le hlt.1 (size_sortWorldK_c pairv 2 w g 0 m _ os))
  · unfold sortWorldK
    refine below_grow ?_ os ?_
    · exact below_putRow (Below.refl base w) hlt.2
    · rw [size_putRowK]
      show base ≤ w.heap.size
      omega
set_option maxHeartbeats 1000000 in
theorem stable_in {w : World} {base g cap : Nat} {L : List (Nat × Int)} (h : w.ownsRow base 79 2 (.slice (some ⟨g, 0, none⟩) L.length cap) L.length (L.flatMap pairv)) (hl : L.length < 20) :
    Calls Try.prog 84 #[.slice (some ⟨g, 0, none⟩) L.length cap, .int .i64 (L.length : Int), .func (.func 47) #[] #[]] w (RetSorted w base g L) := by
  have HC := hid (isort_reached h (by omega))
  clear h
  have hl2 : (L.length : Int) < 20 := by omega
  go_enter Try.func84, Try.ntmps84
  go_wp2
  go_loop [7, 8] (fun a b => a = .int .i64 0 ∧ b = .int .i64 20) (fun _ _ => 0)
  case atStart => exact ⟨rfl, rfl⟩
  case round =>
    obtain ⟨rfl, rfl⟩ := hrel
    go_wp2_with fail
    refine HC.out.mono ?_
    rintro en w1 ⟨rfl, h1, h2⟩
    have H1 := hid h1
    have H2 := hid h2
    clear h1 h2
    go_wp2
    go_loopw [6, 7, 8] (fun a b c wr => a = .int .i64 20 ∧ wr = w1) (fun _ _ _ _ => 0)
    case atStart => exact ⟨rfl, rfl⟩
    case round =>
      obtain ⟨rfl, rfl⟩ := hrel
      go_wp2
      go_end0
      exact ⟨rfl, H1.out, H2.out⟩
set_option maxHeartbeats 1000000 in
theorem stable_reached {w : World} {base g cap : Nat} {L : List (Nat × Int)} (h : w.ownsRow base 79 2 (.slice (some ⟨g, 0, none⟩) L.length cap) L.length (L.flatMap pairv)) (hl : L.length < 20) :
    Calls Try.prog 46 #[.slice (some ⟨g, 0, none⟩) L.length cap, .func (.func 47) #[] #[]] w (RetSorted w base g L) := by
  have HC := hid (stable_in h hl)
  clear h
  go_enter Try.func46, Try.ntmps46
  go_wp2_with fail
  refine HC.out.mono ?_
  rintro en w1 ⟨rfl, h1, h2⟩
  have H1 := hid h1
  have H2 := hid h2
  clear h1 h2
  go_wp2
  go_end0
  exact ⟨rfl, H1.out, H2.out⟩
set_option maxHeartbeats 1000000 in
/-- Of no element nothing is sorted. -/
theorem stable_none (w : World) : Calls Try.prog 46 #[.slice none 0 0, .func (.func 47) #[] #[]] w (RetVal w (.tuple #[])) := by
  have h100 : Calls Try.prog 100 #[.slice none 0 0, .int .i64 0, .int .i64 0, .func (.func 47) #[] #[]] w (RetVal w (.tuple #[])) := by
    go_enter Try.func100, Try.ntmps100
    go_wp2
    go_loopw [8] (fun a wr => a = .int .i64 1 ∧ wr = w) (fun _ _ => 0)
    case atStart => exact ⟨rfl, rfl⟩
    case round =>
      obtain ⟨rfl, rfl⟩ := hrel
      go_wp2
      go_end0
      exact ⟨rfl, rfl⟩
  have H100 := hid h100
  clear h100
  have h84 : Calls Try.prog 84 #[.slice none 0 0, .int .i64 0, .func (.func 47) #[] #[]] w (RetVal w (.tuple #[])) := by
    go_enter Try.func84, Try.ntmps84
    go_wp2
    go_loop [7, 8] (fun a b => a = .int .i64 0 ∧ b = .int .i64 20) (fun _ _ => 0)
    case atStart => exact ⟨rfl, rfl⟩
    case round =>
      obtain ⟨rfl, rfl⟩ := hrel
      go_wp2_with fail
      refine H100.out.mono ?_
      rintro en w1 ⟨rfl, hw1⟩
      have hw := hw1.symm
      subst hw
      go_wp2
      go_loopw [6, 7, 8] (fun a b c wr => a = .int .i64 20 ∧ wr = w) (fun _ _ _ _ => 0)
      case atStart => exact ⟨rfl, rfl⟩
      case round =>
        obtain ⟨rfl, rfl⟩ := hrel
        go_wp2
        go_end0
        exact ⟨rfl, rfl⟩
  have H84 := hid h84
  clear h84
  go_enter Try.func46, Try.ntmps46
  go_wp2_with fail
  refine H84.out.mono ?_
  rintro en w1 ⟨rfl, hw1⟩
  subst hw1
  go_wp2
  go_end0
  exact ⟨rfl, rfl⟩

end Go.Proofs.Ytpfjannhggcmiaa
