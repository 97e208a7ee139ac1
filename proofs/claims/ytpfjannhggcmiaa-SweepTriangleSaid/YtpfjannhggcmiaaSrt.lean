/- A stable sort in plain terms: the insertion sort over an array is insertion into a list, element by element. No program in sight. -/
import Derived.Test.YtpfjannhggcmiaaCh
import Derived.Sort.LotA
namespace Go.Proofs.Ytpfjannhggcmiaa

section
variable {α : Type}
/-- x goes behind all elements whose key is not greater. -/
def sIns (key : α → Int) (L : List α) (x : α) : List α := L.takeWhile (fun y => decide (key y ≤ key x)) ++ x :: L.dropWhile (fun y => decide (key y ≤ key x))
def sSort (key : α → Int) (L : List α) : List α := L.foldl (sIns key) []
theorem sIns_len (key : α → Int) (L : List α) (x : α) : (sIns key L x).length = L.length + 1 := by
  unfold sIns
  have := congrArg List.length (List.takeWhile_append_dropWhile (p := fun y => decide (key y ≤ key x)) (l := L))
  simp only [List.length_append, List.length_cons] at this ⊢
  omega
theorem sSort_snoc (key : α → Int) (L : List α) (x : α) : sSort key (L ++ [x]) = sIns key (sSort key L) x := by unfold sSort; rw [List.foldl_append]; rfl
theorem sSort_len (key : α → Int) (L : List α) : (sSort key L).length = L.length := by
  have : ∀ (L : List α) (acc : List α), (L.foldl (sIns key) acc).length = acc.length + L.length := by
    intro L
    induction L with
    | nil => intro acc; rfl
    | cons x L ih => intro acc; rw [List.foldl_cons, ih, sIns_len, List.length_cons]; omega
  unfold sSort
  rw [this]
  simp
theorem mem_sIns {key : α → Int} {L : List α} {x y : α} : y ∈ sIns key L x ↔ y = x ∨ y ∈ L := by
  unfold sIns
  have h := List.takeWhile_append_dropWhile (p := fun y => decide (key y ≤ key x)) (l := L)
  rw [List.mem_append, List.mem_cons]
  constructor
  · rintro (h1 | h1 | h1)
    · exact .inr (by rw [← h]; exact List.mem_append_left _ h1)
    · exact .inl h1
    · exact .inr (by rw [← h]; exact List.mem_append_right _ h1)
  · rintro (h1 | h1)
    · exact .inr (.inl h1)
    · rw [← h] at h1
      rcases List.mem_append.1 h1 with h2 | h2
      · exact .inl h2
      · exact .inr (.inr h2)
theorem mem_sSort {key : α → Int} {y : α} : ∀ {L : List α}, y ∈ sSort key L ↔ y ∈ L := by
  have : ∀ (L acc : List α), y ∈ L.foldl (sIns key) acc ↔ y ∈ acc ∨ y ∈ L := by
    intro L
    induction L with
    | nil => intro acc; simp
    | cons x L ih =>
      intro acc
      rw [List.foldl_cons, ih, mem_sIns, List.mem_cons]
      constructor
      · rintro ((h | h) | h)
        · exact .inr (.inl h)
        · exact .inl h
        · exact .inr (.inr h)
      · rintro (h | h | h)
        · exact .inl (.inr h)
        · exact .inl (.inl h)
        · exact .inr h
  intro L
  unfold sSort
  rw [this]; simp
theorem sIns_sorted {key : α → Int} {L : List α} {x : α} (h : L.Pairwise fun a b => key a ≤ key b) : (sIns key L x).Pairwise fun a b => key a ≤ key b := by
  induction L with
  | nil => simp [sIns]
  | cons y L ih =>
    rw [List.pairwise_cons] at h
    unfold sIns
    by_cases e : key y ≤ key x
    · rw [List.takeWhile_cons_of_pos (by simpa using e), List.dropWhile_cons_of_pos (by simpa using e), List.cons_append, List.pairwise_cons]
      refine ⟨fun z hz => ?_, ih h.2⟩
      rcases mem_sIns.1 hz with rfl | hz
      · exact e
      · exact h.1 z hz
    · rw [List.takeWhile_cons_of_neg (by simpa using e), List.dropWhile_cons_of_neg (by simpa using e), List.nil_append, List.pairwise_cons, List.pairwise_cons]
      refine ⟨fun z hz => ?_, h⟩
      rcases List.mem_cons.1 hz with rfl | hz
      · omega
      · have := h.1 z hz; omega
theorem sSort_sorted (key : α → Int) (L : List α) : (sSort key L).Pairwise fun a b => key a ≤ key b := by
  have : ∀ (L acc : List α), acc.Pairwise (fun a b => key a ≤ key b) → (L.foldl (sIns key) acc).Pairwise fun a b => key a ≤ key b := by
    intro L
    induction L with
    | nil => intro acc h; exact h
    | cons x L ih => intro acc h; exact ih _ (sIns_sorted h)
  exact this L [] .nil

theorem while_all {p : α → Bool} : ∀ {L : List α}, (∀ z ∈ L, p z = true) → L.takeWhile p = L ∧ L.dropWhile p = []
  | [], _ => ⟨rfl, rfl⟩
  | y :: L, h => by
    have h1 := h y (by simp)
    have h2 := while_all (L := L) (fun z hz => h z (List.mem_cons_of_mem _ hz))
    rw [List.takeWhile_cons_of_pos h1, List.dropWhile_cons_of_pos h1, h2.1, h2.2]
    exact ⟨rfl, rfl⟩
/-- From the right. -/
def insRv (key : α → Int) : List α → α → List α → List α
  | [], x, R => x :: R
  | y :: P, x, R => if key x < key y then insRv key P x (y :: R) else P.reverse ++ y :: x :: R
theorem insRv_app (key : α → Int) : ∀ (P : List α) (x : α) (R : List α), insRv key P x R = insRv key P x [] ++ R := by
  have : ∀ (P : List α) (x : α) (R S : List α), insRv key P x (R ++ S) = insRv key P x R ++ S := by
    intro P
    induction P with
    | nil => intro x R S; rfl
    | cons y P ih =>
      intro x R S
      unfold insRv
      split
      · rw [← List.cons_append, ih]
      · simp
  intro P x R
  have := this P x [] R
  simpa using this
theorem insRv_sIns {key : α → Int} : ∀ (P : List α) (x : α), P.reverse.Pairwise (fun a b => key a ≤ key b) → insRv key P x [] = sIns key P.reverse x
  | [], x, _ => rfl
  | y :: P, x, h => by
    rw [List.reverse_cons, List.pairwise_append] at h
    unfold insRv
    by_cases e : key x < key y
    · rw [if_pos e, insRv_app, insRv_sIns P x h.1, List.reverse_cons]
      unfold sIns
      have hd : [y].dropWhile (fun z => decide (key z ≤ key x)) = [y] := List.dropWhile_cons_of_neg (by simp; omega)
      have ht : [y].takeWhile (fun z => decide (key z ≤ key x)) = [] := List.takeWhile_cons_of_neg (by simp; omega)
      rw [List.takeWhile_append, List.dropWhile_append]
      by_cases hall : (P.reverse.takeWhile fun z => decide (key z ≤ key x)).length = P.reverse.length
      · have h1 := List.takeWhile_append_dropWhile (p := fun z => decide (key z ≤ key x)) (l := P.reverse)
        have h2 : (P.reverse.dropWhile fun z => decide (key z ≤ key x)) = [] := by
          have := congrArg List.length h1
          rw [List.length_append] at this
          exact List.eq_nil_of_length_eq_zero (by omega)
        have h3 : (P.reverse.takeWhile fun z => decide (key z ≤ key x)) = P.reverse := by rw [h2, List.append_nil] at h1; exact h1
        rw [if_pos hall, h2, ht, h3]
        simp [hd]
      · have h2 : (P.reverse.dropWhile fun z => decide (key z ≤ key x)).isEmpty = false := by
          have h1 := congrArg List.length (List.takeWhile_append_dropWhile (p := fun z => decide (key z ≤ key x)) (l := P.reverse))
          rw [List.length_append] at h1
          cases hc : (P.reverse.dropWhile fun z => decide (key z ≤ key x)) with
          | nil => rw [hc] at h1; simp at h1 hall; omega
          | cons a b => rfl
        rw [if_neg hall, h2]
        simp
    · rw [if_neg e, List.reverse_cons]
      have hall : ∀ z ∈ P.reverse ++ [y], decide (key z ≤ key x) = true := fun z hz => by
        rcases List.mem_append.1 hz with hz | hz
        · have := h.2.2 z hz y (by simp); simp; omega
        · have : z = y := by simpa using hz
          subst this; simp; omega
      unfold sIns
      rw [(while_all hall).1, (while_all hall).2]
      simp
variable [Inhabited α]
/-- The inner loop over an array. -/
theorem insInner_list {lt : α → α → Bool} {key : α → Int} (hlt : ∀ x y, lt x y = decide (key x < key y)) : ∀ (P : List α) (x : α) (R : List α) (d : Array α), d.toList = P.reverse ++ x :: R → (Sort.insInner lt 0 P.length d).toList = insRv key P x R
  | [], x, R, d, h => by simpa [Sort.insInner, insRv] using h
  | y :: P, x, R, d, h => by
    have hd : d = (P.reverse ++ y :: x :: R).toArray := by
      apply Array.toList_inj.1
      rw [h]; simp
    have e1 : d[P.length + 1]! = x := by rw [hd]; simp
    have e2 : d[P.length]! = y := by rw [hd]; simp
    show (if P.length + 1 > 0 && lt d[P.length + 1]! d[P.length]! then Sort.insInner lt 0 P.length (Sort.swp d (P.length + 1) P.length) else d).toList = _
    rw [e1, e2, hlt]
    unfold insRv
    by_cases e : key x < key y
    · rw [if_pos (by simp [e]), if_pos e]
      refine insInner_list hlt P x (y :: R) _ ?_
      unfold Sort.swp
      rw [e1, e2, hd]
      simp
    · rw [if_neg (by simp [e]), if_neg e, h]
      simp
theorem insOuter_list {lt : α → α → Bool} {key : α → Int} (hlt : ∀ x y, lt x y = decide (key x < key y)) (L : List α) : ∀ (m i : Nat) (d : Array α), L.length - i = m → i ≤ L.length → d.toList = sSort key (L.take i) ++ L.drop i → (Sort.insOuter lt 0 L.length i d).toList = sSort key L
  | 0, i, d, hm, hi, h => by
    have : i = L.length := by omega
    subst this
    rw [Sort.insOuter, if_neg (by omega), h]
    simp
  | m + 1, i, d, hm, hi, h => by
    have hlt' : i < L.length := by omega
    rw [Sort.insOuter, if_pos hlt']
    have hl : (sSort key (L.take i)).length = i := by rw [sSort_len]; simp; omega
    have h1 := insInner_list hlt (sSort key (L.take i)).reverse L[i] (L.drop (i + 1)) d (by rw [List.reverse_reverse, h, List.drop_eq_getElem_cons hlt'])
    rw [List.length_reverse, hl] at h1
    refine insOuter_list hlt L m (i + 1) _ (by omega) hlt' ?_
    rw [h1, insRv_app, insRv_sIns _ _ (by rw [List.reverse_reverse]; exact sSort_sorted key _), List.reverse_reverse, ← sSort_snoc, List.take_succ_eq_append_getElem hlt']
theorem insertion_list {lt : α → α → Bool} {key : α → Int} (hlt : ∀ x y, lt x y = decide (key x < key y)) (d : Array α) : (Sort.insertionSort lt d 0 d.size).toList = sSort key d.toList := by
  unfold Sort.insertionSort
  cases hd : d.toList with
  | nil =>
    have : d.size = 0 := by rw [← Array.length_toList, hd]; rfl
    rw [this, Sort.insOuter, if_neg (by omega), hd]
    rfl
  | cons x R =>
    have hs : d.size = (x :: R).length := by rw [← Array.length_toList, hd]
    rw [hs]
    refine insOuter_list hlt (x :: R) _ 1 d rfl (by simp) ?_
    rw [hd]
    rfl
end

end Go.Proofs.Ytpfjannhggcmiaa
