/- A region that draws its order and holds several calls or new blocks whose order does not matter: one invariant over what is done, shown for each operation once. -/
import Derived.Test.YtpfjannhggcmiaaReg
namespace Go.Proofs.Ytpfjannhggcmiaa
open Go.RowKit Go.Maps

section
variable {P : Program} {ops : Array Oper} {Q : Exit → Act → World → Prop} {md : Region.Mode} {S : World → Prop}

/-- An effect: the number of the operation, the slot that it writes, if any. -/
abbrev Effs := List (Nat × Option Nat)
def slotE (es : Effs) (done : Nat → Bool) (f : Nat → Value) (t : Nat) (v : Value) : Value :=
  match es.find? (fun p => done p.1 && p.2 == some t) with
  | some p => f p.1
  | none => v
def actE (es : Effs) (done : Nat → Bool) (f : Nat → Value) (a0 : Act) : Act := { a0 with tmps := a0.tmps.mapIdx fun t v => slotE es done f t v }
def numE (es : Effs) (j : Nat) : Bool := es.any fun p => p.1 == j
def listedE (es : Effs) (done : Nat → Bool) (l0 : Array Bool) : Array Bool := l0.mapIdx fun j b => b || (numE es j && done j)
def setD (done : Nat → Bool) (i : Nat) : Nat → Bool := fun j => decide (j = i) || done j
def setF (f : Nat → Value) (i : Nat) (v : Value) : Nat → Value := fun j => if j = i then v else f j
/-- The effects are different operations, with different slots. -/
def sepE (es : Effs) : Prop := es.Pairwise fun p q => p.1 ≠ q.1 ∧ (p.2 = none ∨ p.2 ≠ q.2)
theorem sepE.uniq {es : Effs} (h : sepE es) {p q : Nat × Option Nat} (hp : p ∈ es) (hq : q ∈ es) (he : p.1 = q.1 ∨ (p.2 ≠ none ∧ p.2 = q.2)) : p = q := by
  induction es with
  | nil => cases hp
  | cons x es ih =>
    unfold sepE at h
    rw [List.pairwise_cons] at h
    rcases List.mem_cons.1 hp with e1 | hp' <;> rcases List.mem_cons.1 hq with e2 | hq'
    · rw [e1, e2]
    · subst e1
      have h1 := h.1 q hq'
      rcases he with he | ⟨he1, he2⟩
      · exact absurd he h1.1
      · rcases h1.2 with h2 | h2
        · exact absurd h2 he1
        · exact absurd he2 h2
    · subst e2
      have h1 := h.1 p hp'
      rcases he with he | ⟨he1, he2⟩
      · exact absurd he.symm h1.1
      · rcases h1.2 with h2 | h2
        · exact absurd (he2.trans h2) he1
        · exact absurd he2.symm h2
    · exact ih h.2 hp' hq'
theorem numE_iff {es : Effs} {j : Nat} : numE es j = true ↔ ∃ t, (j, t) ∈ es := by
  unfold numE
  rw [List.any_eq_true]
  constructor
  · rintro ⟨p, hp, he⟩; have : p.1 = j := by simpa using he
    exact ⟨p.2, by rw [← this]; exact hp⟩
  · rintro ⟨t, ht⟩; exact ⟨_, ht, by simp⟩

theorem find_congr {α : Type} {p q : α → Bool} : ∀ {l : List α}, (∀ x ∈ l, p x = q x) → l.find? p = l.find? q
  | [], _ => rfl
  | x :: l, h => by
    rw [List.find?_cons, List.find?_cons, h x (by simp), find_congr (fun y hy => h y (List.mem_cons_of_mem _ hy))]
theorem slotE_other {es : Effs} {done : Nat → Bool} {f : Nat → Value} {t : Nat} {v : Value} (h : ∀ p ∈ es, p.2 ≠ some t) : slotE es done f t v = v := by
  unfold slotE
  rw [List.find?_eq_none.2 (fun p hp => by have := h p hp; simp [this])]
theorem slotE_at {es : Effs} (hs : sepE es) {done : Nat → Bool} {f : Nat → Value} {i t : Nat} {v : Value} (hi : (i, some t) ∈ es) (hd : done i = true) : slotE es done f t v = f i := by
  unfold slotE
  cases hf : es.find? (fun p => done p.1 && p.2 == some t) with
  | none => exact absurd (List.find?_eq_none.1 hf (i, some t) hi) (by simp [hd])
  | some p =>
    have h1 := List.mem_of_find?_eq_some hf
    have h2 := List.find?_some hf
    simp only [Bool.and_eq_true, beq_iff_eq] at h2
    have := hs.uniq h1 hi (.inr ⟨by rw [h2.2]; simp, h2.2⟩)
    rw [this]
theorem slotE_step {es : Effs} (hs : sepE es) {done : Nat → Bool} {f : Nat → Value} {i t : Nat} {ti : Option Nat} {u v : Value} (hi : (i, ti) ∈ es) (hd : done i = false) : slotE es (setD done i) (setF f i u) t v = if some t = ti then u else slotE es done f t v := by
  by_cases e : some t = ti
  · subst e
    rw [if_pos rfl, slotE_at hs hi (by simp [setD])]
    simp [setF]
  · rw [if_neg e]
    have hc : es.find? (fun p => setD done i p.1 && p.2 == some t) = es.find? (fun p => done p.1 && p.2 == some t) := find_congr fun p hp => by
      by_cases e2 : p.1 = i
      · have := hs.uniq hp hi (.inl e2)
        subst this
        have hne : (ti == some t) = false := by simp; exact fun h => e h.symm
        simp [hne]
      · simp [setD, e2]
    unfold slotE
    rw [hc]
    cases hf : es.find? (fun p => done p.1 && p.2 == some t) with
    | none => rfl
    | some p =>
      have h2 := List.find?_some hf
      simp only [Bool.and_eq_true] at h2
      have : p.1 ≠ i := fun h => by rw [h, hd] at h2; simp at h2
      simp [setF, this]
theorem actE_step {es : Effs} (hs : sepE es) {done : Nat → Bool} {f : Nat → Value} {i : Nat} {ti : Option Nat} {u : Value} {a0 : Act} (hi : (i, ti) ∈ es) (hd : done i = false) : actE es (setD done i) (setF f i u) a0 = (actE es done f a0).put ti u := by
  cases ti with
  | none =>
    unfold actE Act.put
    simp only [Act.mk.injEq, and_true]
    apply Array.ext
    · simp
    · intro t h1 h2
      simp only [Array.getElem_mapIdx, slotE_step hs hi hd]
      rw [if_neg (by simp)]
  | some ti =>
    unfold actE Act.put
    simp only [Act.mk.injEq, and_true]
    apply Array.ext
    · simp
    · intro t h1 h2
      rw [Array.getElem_setIfInBounds (by simpa using h2)]
      simp only [Array.getElem_mapIdx, slotE_step hs hi hd]
      by_cases e : t = ti
      · rw [if_pos (by rw [e]), if_pos e.symm]
      · rw [if_neg (by simpa using e), if_neg (fun h => e h.symm)]
theorem actE_none (es : Effs) (f : Nat → Value) (a0 : Act) : actE es (fun _ => false) f a0 = a0 := by
  unfold actE
  have : (a0.tmps.mapIdx fun t v => slotE es (fun _ => false) f t v) = a0.tmps := by
    apply Array.ext
    · simp
    · intro t h1 h2
      simp only [Array.getElem_mapIdx]
      unfold slotE
      rw [List.find?_eq_none.2 (by simp)]
  rw [this]
theorem actE_congr {es : Effs} {done done' : Nat → Bool} {f : Nat → Value} {a0 : Act} (h : ∀ p ∈ es, done p.1 = done' p.1) : actE es done f a0 = actE es done' f a0 := by
  unfold actE slotE
  have : ∀ t : Nat, es.find? (fun p => done p.1 && p.2 == some t) = es.find? (fun p => done' p.1 && p.2 == some t) := fun t => find_congr fun p hp => by rw [h p hp]
  simp only [this]
/-- All done: one after another. -/
def putAll (es : Effs) (f : Nat → Value) (a0 : Act) : Act := es.foldl (fun a p => a.put p.2 (f p.1)) a0
theorem actE_fold {es : Effs} (hs : sepE es) (f : Nat → Value) (a0 : Act) : ∀ (l : Effs) (done : Nat → Bool), sepE l → (∀ p ∈ l, p ∈ es ∧ done p.1 = false) → actE es (l.foldl (fun d p => setD d p.1) done) f a0 = l.foldl (fun a p => a.put p.2 (f p.1)) (actE es done f a0)
  | [], _, _, _ => rfl
  | p :: l, done, hl, h => by
    unfold sepE at hl
    rw [List.pairwise_cons] at hl
    rw [List.foldl_cons, List.foldl_cons, actE_fold hs f a0 l (setD done p.1) hl.2 (fun q hq => ⟨(h q (List.mem_cons_of_mem _ hq)).1, by
      have h1 := (h q (List.mem_cons_of_mem _ hq)).2
      have h2 := (hl.1 q hq).1
      have h3 : ¬ q.1 = p.1 := fun e => h2 e.symm
      simp [setD, h1, h3]⟩)]
    have e : setF f p.1 (f p.1) = f := by funext j; unfold setF; split <;> simp_all
    have := actE_step (f := f) (u := f p.1) (a0 := a0) hs (h p (by simp)).1 (h p (by simp)).2
    rw [e] at this
    rw [this]
theorem fold_setD (l : Effs) : ∀ (done : Nat → Bool) (j : Nat), (l.foldl (fun d p => setD d p.1) done) j = (numE l j || done j) := by
  induction l with
  | nil => intro done j; simp [numE]
  | cons p l ih =>
    intro done j
    rw [List.foldl_cons, ih]
    simp only [setD, numE, List.any_cons]
    by_cases e : p.1 = j
    · subst e; simp
    · have e' : ¬ j = p.1 := fun h => e h.symm
      have e3 : (p.1 == j) = false := by simp [e]
      rw [e3]
      simp [e']
theorem actE_all {es : Effs} (hs : sepE es) {done : Nat → Bool} (h : ∀ p ∈ es, done p.1 = true) (f : Nat → Value) (a0 : Act) : actE es done f a0 = putAll es f a0 := by
  have h1 := actE_fold hs f a0 es (fun _ => false) hs (fun p hp => ⟨hp, rfl⟩)
  rw [actE_none] at h1
  unfold putAll
  rw [← h1]
  refine actE_congr fun p hp => ?_
  rw [h p hp, fold_setD]
  have : numE es p.1 = true := numE_iff.2 ⟨p.2, hp⟩
  simp [this]
theorem eval_other {es : Effs} {done : Nat → Bool} {f : Nat → Value} {a0 : Act} {t : Nat} (h : ∀ p ∈ es, p.2 ≠ some t) : (actE es done f a0).eval (.tmp t) = a0.eval (.tmp t) := by
  unfold actE Act.eval
  simp only [Array.getD_eq_getD_getElem?, Array.getElem?_mapIdx]
  cases a0.tmps[t]? with
  | none => rfl
  | some v => simp [slotE_other h]
theorem eval_done {es : Effs} (hs : sepE es) {done : Nat → Bool} {f : Nat → Value} {a0 : Act} {i t : Nat} (hi : (i, some t) ∈ es) (hd : done i = true) (ht : t < a0.tmps.size) : (actE es done f a0).eval (.tmp t) = f i := by
  unfold actE Act.eval
  simp only [Array.getD_eq_getD_getElem?, Array.getElem?_mapIdx, Array.getElem?_eq_getElem ht]
  simp [slotE_at hs hi hd]

theorem listedE_step {es : Effs} {done : Nat → Bool} {i : Nat} {t : Option Nat} (hi : (i, t) ∈ es) (l0 : Array Bool) : listedE es (setD done i) l0 = (listedE es done l0).setIfInBounds i true := by
  unfold listedE
  apply Array.ext
  · simp
  · intro j h1 h2
    rw [Array.getElem_setIfInBounds (by simpa using h2)]
    simp only [Array.getElem_mapIdx]
    by_cases e : i = j
    · subst e
      have : numE es i = true := numE_iff.2 ⟨t, hi⟩
      simp [setD, this]
    · have e' : ¬ j = i := fun h => e h.symm
      rw [if_neg e]
      simp [setD, e']
theorem listedE_congr {es : Effs} {done done' : Nat → Bool} {l0 : Array Bool} (h : ∀ p ∈ es, done p.1 = done' p.1) : listedE es done l0 = listedE es done' l0 := by
  unfold listedE
  have : ∀ j, (numE es j && done j) = (numE es j && done' j) := fun j => by
    cases hn : numE es j with
    | false => rfl
    | true =>
      obtain ⟨t, ht⟩ := numE_iff.1 hn
      rw [h (j, t) ht]
  simp only [this]

/-! ### all that may be done -/
def allBools : Nat → List (List Bool)
  | 0 => [[]]
  | k + 1 => (allBools k).flatMap fun l => [false :: l, true :: l]
theorem mem_allBools : ∀ bs : List Bool, bs ∈ allBools bs.length
  | [] => by simp [allBools]
  | b :: bs => by
    simp only [allBools, List.length_cons, List.mem_flatMap]
    exact ⟨bs, mem_allBools bs, by cases b <;> simp⟩
def doneB (es : Effs) (bs : List Bool) (j : Nat) : Bool := (es.zip bs).any fun p => p.1.1 == j && p.2
theorem doneB_map (es : Effs) (done : Nat → Bool) (j : Nat) (h : numE es j = true) : doneB es (es.map fun p => done p.1) j = done j := by
  unfold doneB
  have hz : es.zip (es.map fun p => done p.1) = es.map fun p => (p, done p.1) := by
    induction es with
    | nil => rfl
    | cons p es ih =>
      by_cases hn : numE es j = true
      · simp only [List.map_cons, List.zip_cons_cons]; rw [ih hn]
      · clear ih hn h
        have : ∀ (l : Effs), l.zip (l.map fun p => done p.1) = l.map fun p => (p, done p.1) := by
          intro l; induction l with
          | nil => rfl
          | cons q l ih => simp only [List.map_cons, List.zip_cons_cons]; rw [ih]
        exact this _
  rw [hz, List.any_map]
  obtain ⟨t, ht⟩ := numE_iff.1 h
  cases hd : done j with
  | true => exact List.any_eq_true.2 ⟨_, ht, by simp [hd]⟩
  | false =>
    rw [List.any_eq_false]
    intro p _
    simp only [Function.comp]
    intro hc
    simp only [Bool.and_eq_true, beq_iff_eq] at hc
    rw [hc.1, hd] at hc
    simp at hc
/-- Whatever is done, the next is an effect whose own conditions are done; when all are done, the chain follows. -/
def effB (md : Region.Mode) (ops : Array Oper) (n : Nat) (l0 : Array Bool) (es : Effs) (deps : Nat → List Nat) : Bool :=
  (es.all fun p => decide (p.1 < n) && (match ops[p.1]? with | some o => decide (o.dst = p.2) && decide (o.guard = none) | none => false)) &&
  (allBools es.length).all fun bs => bs.all id || (!(es.all fun p => !doneB es bs p.1 || (deps p.1).all fun j => !numE es j || doneB es bs j)) || (!(Region.ready md ops (listedE es (doneB es bs) l0)).isEmpty && (Region.ready md ops (listedE es (doneB es bs) l0)).all fun i => numE es i && (deps i).all fun j => numE es j && doneB es bs j)

/-- What an operation does with these operands: it yields a value, or its callee does. -/
def OpDoes (P : Program) (ρ : Operand → Value) (o : Oper) (w : World) (R : Value → World → Prop) : Prop :=
  match (execOp ρ o).run P w with
  | .ok (.value u) w' => R u w'
  | .ok .skip w' => R undef w'
  | .ok (.enter g args) w' => Calls P g args w' fun e w'' => ∃ u, e = .returned u ∧ R u w''
  | _ => False
theorem wpOp_of_does {i : Nat} {o : Oper} {a : Act} {w : World} {R : Value → World → Prop} {K : Act → World → Prop} (ho : ops[i]? = some o) (hg : o.guard = none) (h : OpDoes P a.eval o w R) (hK : ∀ u w', R u w' → K (a.put o.dst u) w') : wpOp P ops Q i K a w := by
  unfold wpOp
  simp only [ho]
  rw [if_pos (by simp [Region.wanted, hg])]
  refine .inl ?_
  unfold OpDoes at h
  unfold Oper.wp
  generalize (execOp a.eval o).run P w = r at *
  cases r with
  | halt x w' => exact h.elim
  | ok nx w' =>
    cases nx <;> first | exact h.elim | skip
    case value u => exact hK _ _ h
    case skip => exact hK _ _ h
    case enter g args =>
      refine Calls.mono h fun e w'' he => ?_
      obtain ⟨u, rfl, hR⟩ := he
      exact hK _ _ hR

theorem count_step {es : Effs} (hs : sepE es) {done : Nat → Bool} {i : Nat} {t : Option Nat} (hi : (i, t) ∈ es) (hd : done i = false) : (es.filter fun p => !done p.1).length = (es.filter fun p => !setD done i p.1).length + 1 := by
  induction es with
  | nil => cases hi
  | cons p es ih =>
    unfold sepE at hs
    rw [List.pairwise_cons] at hs
    rw [List.filter_cons, List.filter_cons]
    by_cases e : p.1 = i
    · have hrest : (es.filter fun p => !setD done i p.1) = es.filter fun p => !done p.1 := by
        apply List.filter_congr
        intro q hq
        have := (hs.1 q hq).1
        have h3 : ¬ q.1 = i := fun h => this (e.trans h.symm)
        simp [setD, h3]
      have h1 : (!done p.1) = true := by rw [e, hd]; rfl
      have h2 : (!setD done i p.1) = false := by simp [setD, e]
      rw [if_pos h1, h2, hrest]
      simp
    · have hi' : (i, t) ∈ es := by
        rcases List.mem_cons.1 hi with h | h
        · exact absurd (by rw [← h]) e
        · exact h
      have h1 : setD done i p.1 = done p.1 := by simp [setD, e]
      rw [h1]
      have := ih hs.2 hi'
      split
      · simp only [List.length_cons]; omega
      · exact this

theorem wpAnyT_eff {n : Nat} {cs : List Nat} {es : Effs} {deps : Nat → List Nat} {l0 : Array Bool} {a0 : Act} (hs : sepE es) (hB : effB md ops n l0 es deps = true) (hC : chainB md ops n cs (listedE es (fun _ => true) l0) = true)
    (I : (Nat → Bool) → (Nat → Value) → World → Prop) (hS : ∀ done f w, I done f w → S w)
    (hstep : ∀ i, numE es i = true → ∀ done f w, done i = false → (∀ j ∈ deps i, done j = true) → I done f w → ∀ o, ops[i]? = some o → OpDoes P (actE es done f a0).eval o w (fun u w' => I (setD done i) (setF f i u) w'))
    (hend : ∀ done f w, (∀ p ∈ es, done p.1 = true) → I done f w → chainS P ops Q S n cs (putAll es f a0) w) :
    ∀ (m : Nat) (done : Nat → Bool) (f : Nat → Value) (w : World), (es.filter fun p => !done p.1).length = m → (∀ p ∈ es, done p.1 = true → ∀ j ∈ deps p.1, done j = true) → I done f w → wpAnyT P md ops Q S n (m + (cs.length + 1)) (listedE es done l0) (actE es done f a0) w := by
  unfold effB at hB
  rw [Bool.and_eq_true] at hB
  obtain ⟨hB1, hB2⟩ := hB
  intro m
  induction m with
  | zero =>
    intro done f w hm _ hI
    have hall : ∀ p ∈ es, done p.1 = true := fun p hp => by
      have h0 := List.eq_nil_of_length_eq_zero hm
      have := List.filter_eq_nil_iff.1 h0 p hp
      simpa using this
    rw [listedE_congr (done' := fun _ => true) hall, actE_all hs hall, Nat.zero_add]
    exact wpAnyT_chain cs _ _ w hC (hend done f w hall hI)
  | succ m ih =>
    intro done f w hm hcl hI
    have hb := List.all_eq_true.1 hB2 (es.map fun p => done p.1) (by have := mem_allBools (es.map fun p => done p.1); simpa using this)
    have hl : listedE es (doneB es (es.map fun p => done p.1)) l0 = listedE es done l0 := listedE_congr fun p hp => doneB_map es done p.1 (numE_iff.2 ⟨p.2, hp⟩)
    have hclosed : (es.all fun p => !doneB es (es.map fun p => done p.1) p.1 || (deps p.1).all fun j => !numE es j || doneB es (es.map fun p => done p.1) j) = true := by
      rw [List.all_eq_true]
      intro p hp
      rw [doneB_map es done p.1 (numE_iff.2 ⟨p.2, hp⟩), Bool.or_eq_true]
      cases hd : done p.1 with
      | false => exact .inl rfl
      | true =>
        refine .inr (List.all_eq_true.2 fun j hj => ?_)
        rw [Bool.or_eq_true]
        cases hn : numE es j with
        | false => exact .inl rfl
        | true => exact .inr (by rw [doneB_map es done j hn]; exact hcl p hp hd j hj)
    rw [hl, hclosed, Bool.not_true, Bool.or_false, Bool.or_eq_true] at hb
    rcases hb with hb | hb
    · exfalso
      have h1 : ∀ p ∈ es, done p.1 = true := fun p hp => by
        have := List.all_eq_true.1 hb (done p.1) (List.mem_map.2 ⟨p, hp, rfl⟩)
        simpa using this
      have : (es.filter fun p => !done p.1) = [] := List.filter_eq_nil_iff.2 (fun p hp => by simp [h1 p hp])
      rw [this] at hm
      cases hm
    · rw [Bool.and_eq_true] at hb
      obtain ⟨hne, hb⟩ := hb
      rw [show m + 1 + (cs.length + 1) = (m + (cs.length + 1)) + 1 by omega]
      refine ⟨fun h0 => by rw [h0] at hne; simp at hne, fun i hi => ?_⟩
      have h1 := List.all_eq_true.1 hb i hi
      rw [Bool.and_eq_true] at h1
      obtain ⟨hnum, hdeps⟩ := h1
      obtain ⟨t, ht⟩ := numE_iff.1 hnum
      have hdone : done i = false := by
        obtain ⟨h2, o, ho, _⟩ := mem_ready.1 hi
        cases hd : done i with
        | false => rfl
        | true =>
          exfalso
          have : (listedE es done l0).getD i true = true := by
            unfold listedE
            simp only [Array.getD_eq_getD_getElem?, Array.getElem?_mapIdx]
            cases l0[i]? with
            | none => rfl
            | some b => simp [hnum, hd]
          rw [this] at h2
          cases h2
      have h3 := List.all_eq_true.1 hB1 (i, t) ht
      simp only [Bool.and_eq_true, decide_eq_true_eq] at h3
      obtain ⟨hin, h3⟩ := h3
      cases ho : ops[i]? with
      | none => rw [ho] at h3; cases h3
      | some o =>
        rw [ho] at h3
        simp only [Bool.and_eq_true, decide_eq_true_eq] at h3
        obtain ⟨hdst, hgd⟩ := h3
        have hdj : ∀ j ∈ deps i, done j = true := fun j hj => by
          have h4 := List.all_eq_true.1 hdeps j hj
          rw [Bool.and_eq_true] at h4
          rw [← doneB_map es done j h4.1]
          exact h4.2
        refine wpOp_of_does ho hgd (hstep i hnum done f w hdone hdj hI o ho) (fun u w' hR => ⟨fun _ => hS _ _ _ hR, ?_⟩)
        · rw [hdst, ← actE_step hs ht hdone, ← listedE_step ht]
          refine ih _ _ w' ?_ (fun p hp h5 j hj => ?_) hR
          · have := count_step hs ht hdone
            omega
          · unfold setD at h5 ⊢
            by_cases e : p.1 = i
            · rw [e] at hj; rw [hdj j hj]; simp
            · simp [e] at h5
              rw [hcl p hp h5 j hj]; simp

/-! ### reads, effects, chain -/
def listAfter : List Nat → Array Bool → Array Bool
  | [], l => l
  | i :: rs, l => listAfter rs (l.setIfInBounds i true)
def readsB2 (md : Region.Mode) (ops : Array Oper) (n : Nat) : List Nat → Array Bool → Bool
  | [], _ => true
  | i :: rs, l => (Region.ready md ops l).contains i && Region.free md ops l i && decide (i < n) && readsB2 md ops n rs (l.setIfInBounds i true)
def planE (md : Region.Mode) (ops : Array Oper) (n : Nat) (rs : List Nat) (es : Effs) (cs : List Nat) (deps : Nat → List Nat) : Bool :=
  Region.noSelect ops && decide (ops.size = n + 1) && decide (rs.length + es.length + cs.length = n) && Region.sinkB md ops n && readsB2 md ops n rs (Array.replicate ops.size false) &&
  effB md ops n (listAfter rs (Array.replicate ops.size false)) es deps && chainB md ops n cs (listedE es (fun _ => true) (listAfter rs (Array.replicate ops.size false)))

theorem wpAnyT_reads2 {n F : Nat} {w : World} {K : Act → Prop} (hn : ops.size = n + 1) (hsink : Region.sinkB md ops n = true) (hsel : Region.noSelect ops = true) (hQ : ∀ c a (d : Option Tmp) v w, Q (.panic c) (a.put d v) w → Q (.panic c) a w) (hS : S w) :
    ∀ (rs : List Nat) (listed : Array Bool) (a : Act), HeadInv md ops n listed → readsB2 md ops n rs listed = true → (∀ a', K a' → wpAnyT P md ops Q S n F (listAfter rs listed) a' w) → readsS P ops S K rs a → wpAnyT P md ops Q S n (rs.length + F) listed a w
  | [], listed, a, _, _, hK, h => by simpa [listAfter] using hK a h
  | i :: rs, listed, a, inv, hB, hK, h => by
    simp only [readsB2, Bool.and_eq_true, decide_eq_true_eq] at hB
    obtain ⟨⟨⟨hr, hf⟩, hin⟩, hB⟩ := hB
    obtain ⟨o, v, ho, hy, h⟩ := h
    have hr' : i ∈ Region.ready md ops listed := by simpa using hr
    have := wpAnyT_reads2 (F := F) (K := K) hn hsink hsel hQ hS rs (listed.setIfInBounds i true) _ (inv.set hr' hin) hB hK h
    rw [show (i :: rs).length + F = (rs.length + F) + 1 by simp; omega]
    exact wpAnyT_first hn hsink ho hin (Region.noSelect_spec hsel) (fun c a w => hQ c a _ _ w) _ listed a w inv (Region.free_spec ho hf) hr' hy hS this

/-- What is to be shown behind the reads. -/
structure EffS (P : Program) (ops : Array Oper) (Q : Exit → Act → World → Prop) (S : World → Prop) (n : Nat) (es : Effs) (cs : List Nat) (deps : Nat → List Nat) (I : (Nat → Bool) → (Nat → Value) → World → Prop) (a0 : Act) (w : World) : Prop where
  start : I (fun _ => false) (fun _ => undef) w
  keep : ∀ done f w, I done f w → S w
  step : ∀ i, numE es i = true → ∀ done f w, done i = false → (∀ j ∈ deps i, done j = true) → I done f w → ∀ o, ops[i]? = some o → OpDoes P (actE es done f a0).eval o w (fun u w' => I (setD done i) (setF f i u) w')
  fin : ∀ done f w, (∀ p ∈ es, done p.1 = true) → I done f w → chainS P ops Q S n cs (putAll es f a0) w

theorem wp_region_eff {id : Nat} {a : Act} {w : World} (S : World → Prop) (n : Nat) (rs : List Nat) (es : Effs) (cs : List Nat) (deps : Nat → List Nat) (I : (Nat → Bool) → (Nat → Value) → World → Prop) (hm : P.follows .mixedOrders = true) (hs : sepE es) (hB : planE .any ops n rs es cs deps = true) (hS : S w.drew)
    (h : readsS P ops S (fun a' => EffS P ops (NoPanic Q) S n es cs deps I a' w.drew) rs a) : (Code.region id ops true).wp P Q a w := by
  simp only [planE, Bool.and_eq_true, decide_eq_true_eq] at hB
  obtain ⟨⟨⟨⟨⟨⟨hsel, hn⟩, hl⟩, hsink⟩, hB⟩, hE⟩, hC⟩ := hB
  refine wp_region_noPanic (wp_region_any hm ?_)
  have inv0 : HeadInv .any ops n (Array.replicate ops.size false) :=
    ⟨by simp, fun j oj _ hl => (by rw [getD_replicate_false] at hl; cases hl), fun t _ ht => getD_in (by simpa using ht) (getD_replicate_false _ _)⟩
  have key := wpAnyT_reads2 (P := P) (Q := NoPanic Q) (S := S) (w := w.drew) (F := es.length + (cs.length + 1)) (K := fun a' => EffS P ops (NoPanic Q) S n es cs deps I a' w.drew) hn hsink hsel (fun _ _ _ _ _ h => h) hS rs _ a inv0 hB (fun a' hK => by
    have h1 := wpAnyT_eff (a0 := a') hs hE hC I hK.keep hK.step hK.fin es.length (fun _ => false) (fun _ => undef) w.drew (by simp) (fun _ _ h => by cases h) hK.start
    rw [actE_none] at h1
    have h2 : listedE es (fun _ => false) (listAfter rs (Array.replicate ops.size false)) = listAfter rs (Array.replicate ops.size false) := by
      unfold listedE
      apply Array.ext
      · simp
      · intro j h1 h2; simp
    rw [h2] at h1
    exact h1) h
  rw [show rs.length + (es.length + (cs.length + 1)) = ops.size by omega] at key
  exact wpAny_of_T _ _ _ _ key
end

end Go.Proofs.Ytpfjannhggcmiaa
