/- A region that draws its order, whose reads may all be taken first under a condition on the world, whose writes follow in one order, and whose last operation waits for all the others: the condition need not hold behind the last. -/
import Derived.Test.YtpfjannhggcmiaaRef3
import Derived.OrdersHeld
import Derived.StillTail
namespace Go.Proofs.Ytpfjannhggcmiaa
open Go.RowKit Go.Maps

section
variable {P : Program} {ops : Array Oper} {Q : Exit → Act → World → Prop} {md : Region.Mode} {S : World → Prop}

/-- Whatever order is picked from here on; S holds behind every operation but number n. -/
def wpAnyT (P : Program) (md : Region.Mode) (ops : Array Oper) (Q : Exit → Act → World → Prop) (S : World → Prop) (n : Nat) : Nat → Array Bool → Act → World → Prop
  | 0, listed, a, w => Region.ready md ops listed = [] ∧ Q .normal a w
  | fuel + 1, listed, a, w =>
    (Region.ready md ops listed = [] → Q .normal a w) ∧
    ∀ i ∈ Region.ready md ops listed, wpOp P ops Q i (fun a' w' => (i ≠ n → S w') ∧ wpAnyT P md ops Q S n fuel (listed.setIfInBounds i true) a' w') a w
theorem wpAny_of_T {n : Nat} : ∀ (fuel : Nat) (listed : Array Bool) (a : Act) (w : World), wpAnyT P md ops Q S n fuel listed a w → wpAny P md ops Q fuel listed a w
  | 0, _, _, _, h => h
  | fuel + 1, _, _, _, h => ⟨h.1, fun i hi => wpOp_mono (fun a' w' h' => wpAny_of_T fuel _ a' w' h'.2) (h.2 i hi)⟩

theorem wpAnyT_first {n i : Nat} {oi : Oper} {v : Value} (hn : ops.size = n + 1) (hsink : Region.sinkB md ops n = true) (hi : ops[i]? = some oi) (hin : i < n) (hsel : ∀ (j : Nat) (o : Oper) cs b, ops[j]? = some o → o.op ≠ .select cs b)
    (hQ : ∀ c a w, Q (.panic c) (a.put oi.dst v) w → Q (.panic c) a w) :
    ∀ (fuel : Nat) (listed : Array Bool) (a : Act) (w : World), HeadInv md ops n listed →
      (∀ j oj, ops[j]? = some oj → j ≠ i → listed.getD j true = false → (∀ e ∈ oj.after, Region.binds md e = true → e.on ≠ i) → oi.apart ops oj = true) →
      i ∈ Region.ready md ops listed → YieldsIf P ops S oi v a → S w →
      wpAnyT P md ops Q S n fuel (listed.setIfInBounds i true) (a.put oi.dst v) w → wpAnyT P md ops Q S n (fuel + 1) listed a w := by
  have hc : Region.chainB md ops n = true := by
    unfold Region.chainB
    rw [List.all_eq_true]
    intro t ht
    have : t < ops.size := List.mem_range.1 ht
    have : t ≤ n := by omega
    simp [this]
  intro fuel
  induction fuel with
  | zero =>
    intro listed a w _ _ hr hy hS H
    refine ⟨fun h => (by rw [h] at hr; cases hr), fun j hj => ?_⟩
    by_cases hji : j = i
    · subst hji; exact hy.wpOp hi hS ⟨fun _ => hS, H⟩
    · have := ready_mono hj hji
      rw [H.1] at this
      cases this
  | succ fuel ih =>
    intro listed a w inv hfree hr hy hS H
    refine ⟨fun h => (by rw [h] at hr; cases hr), fun j hj => ?_⟩
    by_cases hji : j = i
    · subst hji; exact hy.wpOp hi hS ⟨fun _ => hS, H⟩
    · have h1 := H.2 j (ready_mono hj hji)
      obtain ⟨hjun, oj, hoj, hall⟩ := mem_ready.1 hj
      have hjs : j < ops.size := (Array.getElem?_eq_some_iff.1 hoj).1
      have hjn : j < n := by
        rcases Nat.lt_or_ge j n with h' | h'
        · exact h'
        · exact absurd hj (tail_waits hsink hc (by omega) inv (n - i) i rfl hin (mem_ready.1 hr).1 j h')
      have hnot : ∀ e ∈ oj.after, Region.binds md e = true → e.on ≠ i := fun e he hb heq => by
        have h1 := hall e he hb
        have h0 := (mem_ready.1 hr).1
        rw [heq] at h1
        rcases Nat.lt_or_ge i listed.size with h' | h'
        · simp [h'] at h0 h1; rw [h0] at h1; cases h1
        · simp [Array.getElem?_eq_none h'] at h1
      have h2 := wpOp_putIf hoj (hfree j oj hoj hji hjun hnot) (fun cs b => hsel i oi cs b hi) (fun cs b => hsel j oj cs b hoj) hQ hy h1
      have hfree' : ∀ k ok, ops[k]? = some ok → k ≠ i → (listed.setIfInBounds j true).getD k true = false →
          (∀ e ∈ ok.after, Region.binds md e = true → e.on ≠ i) → oi.apart ops ok = true := fun k ok hk hki hun hno => by
        refine hfree k ok hk hki ?_ hno
        by_cases hjk : j = k
        · subst hjk; exact hjun
        · rw [getD_set_ne true hjk] at hun; exact hun
      refine wpOp_mono (fun a' w' h3 => ⟨h3.2.1, ih (listed.setIfInBounds j true) a' w' (inv.set hj hjn) hfree' (ready_mono hr (Ne.symm hji)) h3.1 (h3.2.1 (by omega)) ?_⟩) h2
      rw [Array.setIfInBounds_comm _ _ hji]
      exact h3.2.2

/-! ### the plan: reads, writes, the last -/
/-- Reads, one after another: each yields its value in every world that meets S. -/
def readsS (P : Program) (ops : Array Oper) (S : World → Prop) (K : Act → Prop) : List Nat → Act → Prop
  | [], a => K a
  | i :: rest, a => ∃ o v, ops[i]? = some o ∧ YieldsIf P ops S o v a ∧ readsS P ops S K rest (a.put o.dst v)
/-- Writes, one after another; S holds behind each but the last. -/
def chainS (P : Program) (ops : Array Oper) (Q : Exit → Act → World → Prop) (S : World → Prop) (n : Nat) : List Nat → Act → World → Prop
  | [], a, w => wpOp P ops Q n (fun a' w' => Q .normal a' w') a w
  | i :: rest, a, w => wpOp P ops Q i (fun a' w' => S w' ∧ chainS P ops Q S n rest a' w') a w

def chainB (md : Region.Mode) (ops : Array Oper) (n : Nat) : List Nat → Array Bool → Bool
  | [], listed => decide (Region.ready md ops listed = [n]) && decide (Region.ready md ops (listed.setIfInBounds n true) = [])
  | i :: rest, listed => decide (Region.ready md ops listed = [i]) && decide (i < n) && chainB md ops n rest (listed.setIfInBounds i true)
def readsB (md : Region.Mode) (ops : Array Oper) (n : Nat) (cs : List Nat) : List Nat → Array Bool → Bool
  | [], listed => chainB md ops n cs listed
  | i :: rest, listed => (Region.ready md ops listed).contains i && Region.free md ops listed i && decide (i < n) && readsB md ops n cs rest (listed.setIfInBounds i true)
/-- The plan fits the region. -/
def planB (md : Region.Mode) (ops : Array Oper) (n : Nat) (rs cs : List Nat) : Bool :=
  Region.noSelect ops && decide (ops.size = n + 1) && decide (rs.length + cs.length = n) && Region.sinkB md ops n && readsB md ops n cs rs (Array.replicate ops.size false)

theorem wpAnyT_chain {n : Nat} : ∀ (cs : List Nat) (listed : Array Bool) (a : Act) (w : World), chainB md ops n cs listed = true → chainS P ops Q S n cs a w → wpAnyT P md ops Q S n (cs.length + 1) listed a w
  | [], listed, a, w, hB, h => by
    simp only [chainB, Bool.and_eq_true, decide_eq_true_eq] at hB
    refine ⟨fun h0 => (by rw [hB.1] at h0; cases h0), fun i hi => ?_⟩
    rw [hB.1] at hi
    obtain rfl : i = n := by simpa using hi
    exact wpOp_mono (fun a' w' h' => ⟨fun h0 => absurd rfl h0, hB.2, h'⟩) h
  | c :: cs, listed, a, w, hB, h => by
    simp only [chainB, Bool.and_eq_true, decide_eq_true_eq] at hB
    refine ⟨fun h0 => (by rw [hB.1.1] at h0; cases h0), fun i hi => ?_⟩
    rw [hB.1.1] at hi
    obtain rfl : i = c := by simpa using hi
    exact wpOp_mono (fun a' w' h' => ⟨fun _ => h'.1, wpAnyT_chain cs _ a' w' hB.2 h'.2⟩) h
theorem wpAnyT_reads {n : Nat} {cs : List Nat} {w : World} (hn : ops.size = n + 1) (hsink : Region.sinkB md ops n = true) (hsel : Region.noSelect ops = true) (hQ : ∀ c a (d : Option Tmp) v w, Q (.panic c) (a.put d v) w → Q (.panic c) a w) (hS : S w) :
    ∀ (rs : List Nat) (listed : Array Bool) (a : Act), HeadInv md ops n listed → readsB md ops n cs rs listed = true → readsS P ops S (fun a' => chainS P ops Q S n cs a' w) rs a → wpAnyT P md ops Q S n (rs.length + (cs.length + 1)) listed a w
  | [], listed, a, _, hB, h => by
    have := wpAnyT_chain cs listed a w (by simpa [readsB] using hB) h
    simpa using this
  | i :: rs, listed, a, inv, hB, h => by
    simp only [readsB, Bool.and_eq_true, decide_eq_true_eq] at hB
    obtain ⟨⟨⟨hr, hf⟩, hin⟩, hB⟩ := hB
    obtain ⟨o, v, ho, hy, h⟩ := h
    have hr' : i ∈ Region.ready md ops listed := by simpa using hr
    have := wpAnyT_reads (cs := cs) hn hsink hsel hQ hS rs (listed.setIfInBounds i true) _ (inv.set hr' hin) hB h
    rw [show (i :: rs).length + (cs.length + 1) = (rs.length + (cs.length + 1)) + 1 by simp; omega]
    exact wpAnyT_first hn hsink ho hin (Region.noSelect_spec hsel) (fun c a w => hQ c a _ _ w) _ listed a w inv (Region.free_spec ho hf) hr' hy hS this

theorem wp_region_plan {id : Nat} {a : Act} {w : World} (S : World → Prop) (n : Nat) (rs cs : List Nat) (hm : P.follows .mixedOrders = true) (hB : planB .any ops n rs cs = true) (hS : S w.drew)
    (h : readsS P ops S (fun a' => chainS P ops (NoPanic Q) S n cs a' w.drew) rs a) : (Code.region id ops true).wp P Q a w := by
  simp only [planB, Bool.and_eq_true, decide_eq_true_eq] at hB
  obtain ⟨⟨⟨⟨hsel, hn⟩, hl⟩, hsink⟩, hB⟩ := hB
  refine wp_region_noPanic (wp_region_any hm ?_)
  have inv0 : HeadInv .any ops n (Array.replicate ops.size false) :=
    ⟨by simp, fun j oj _ hl => (by rw [getD_replicate_false] at hl; cases hl), fun t _ ht => getD_in (by simpa using ht) (getD_replicate_false _ _)⟩
  have := wpAny_of_T _ _ _ _ (wpAnyT_reads (cs := cs) (Q := NoPanic Q) (S := S) (w := w.drew) hn hsink hsel (fun _ _ _ _ _ h => h) hS rs _ a inv0 hB h)
  rw [show rs.length + (cs.length + 1) = ops.size by omega] at this
  exact this

/-! ### the moves -/
theorem readsS_take {i : Nat} {rest : List Nat} {o : Oper} {v : Value} {K : Act → Prop} {a : Act} (hi : ops[i]? = some o) (hw : Region.wanted o (yielded ops a.tmps) = true) (hy : ∀ w, S w → (execOp a.eval o).run P w = .ok (.value v) w)
    (h : readsS P ops S K rest (a.put o.dst v)) : readsS P ops S K (i :: rest) a := ⟨o, v, hi, .inl ⟨hw, hy⟩, h⟩
theorem readsS_nil {K : Act → Prop} {a : Act} (h : K a) : readsS P ops S K [] a := h
theorem chainS_step {i n : Nat} {rest : List Nat} {o : Oper} {a : Act} {w : World} (hi : ops[i]? = some o)
    (h : ∀ K' : Act → World → Prop, Shut (∀ a w, S w → chainS P ops Q S n rest a w → K' a w) → if Region.wanted o (yielded ops a.tmps) = true then Oper.wp P o a w K' Q else K' (a.put o.dst undef) w) : chainS P ops Q S n (i :: rest) a w := by
  have := h (fun a' w' => S w' ∧ chainS P ops Q S n rest a' w') (fun a w hs hc => ⟨hs, hc⟩)
  unfold chainS wpOp
  simp only [hi]
  split
  · rename_i hw; rw [if_pos hw] at this; exact .inl this
  · rename_i hw; rw [if_neg hw] at this; exact this
theorem chainS_last {n : Nat} {o : Oper} {a : Act} {w : World} (hi : ops[n]? = some o)
    (h : ∀ K' : Act → World → Prop, Shut (∀ a w, Q .normal a w → K' a w) → if Region.wanted o (yielded ops a.tmps) = true then Oper.wp P o a w K' Q else K' (a.put o.dst undef) w) : chainS P ops Q S n [] a w := by
  have := h (fun a' w' => Q .normal a' w') (fun a w hq => hq)
  unfold chainS wpOp
  simp only [hi]
  split
  · rename_i hw; rw [if_pos hw] at this; exact .inl this
  · rename_i hw; rw [if_neg hw] at this; exact this
end

end Go.Proofs.Ytpfjannhggcmiaa
