/- How this seat's data lie in memory: readable rows, maps as functions, hierarchies and metrics. Plain lemmas; no function is walked here. -/
import Derived.Test.YtpfjannhggcmiaaRows
import Derived.WalkKit
import Derived.WalkSpells
import Derived.WalkLawsBesides
import Derived.Deep.QuietTactic
import Derived.BigQuiet
import Derived.Outline
import Derived.Maps.OwnSet
import Derived.DeepKeys4
import Derived.Deep.RegionHeld3
namespace Go.Proofs.Ytpfjannhggcmiaa
open Go.RowKit Go.Maps

/-! ### worlds -/
theorem below_drewN' {B : Nat} {w W : World} (h : Below B w W) (n : Nat) : Below B w (W.drewN n) := ⟨h.os, h.tape, h.output, h.size, h.block⟩
theorem below_then' {w w1 w2 : World} (h : Below w.heap.size w w1) (k : Below w1.heap.size w1 w2) : Below w.heap.size w w2 :=
  h.trans (k.mono h.size)
theorem below_alloc' {w W : World} (h : Below w.heap.size w W) (o : Obj) : Below w.heap.size w (W.alloc o) := h.alloc h.size o
theorem below_grown' {w W W1 : World} {row : Option Nat} (h : Below w.heap.size w W) (hg : W.grownBy W1 row) (hr : ∀ k, row = some k → w.heap.size ≤ k) : Below w.heap.size w W1 := h.grown hg h.size hr
theorem blk_lt' {w : World} {g : Nat} {o : Obj} (h : w.heap[g]? = some o) : g < w.heap.size := (Array.getElem?_eq_some_iff.1 h).1
theorem blk_below {w W : World} {g : Nat} {o : Obj} (h : w.heap[g]? = some o) (hb : Below w.heap.size w W) : W.heap[g]? = some o := (hb.block g (blk_lt' h)).trans h

/-! ### rows that are read: n cells from an address on -/
/-- The cells from A on are cs 0 .. cs (n - 1); of an empty row nothing is said. -/
def Row (w : World) (A : Option Addr) (n : Nat) (cs : Nat → Value) : Prop :=
  n = 0 ∨ ∃ b o, A = some ⟨b, o, none⟩ ∧ b < w.heap.size ∧ ∀ i, i < n → w.cell? ⟨b, o + i, none⟩ = some (cs i)
theorem Row.get {w : World} {A : Option Addr} {n : Nat} {cs : Nat → Value} (h : Row w A n cs) (hn : 0 < n) :
    ∃ b o, A = some ⟨b, o, none⟩ ∧ b < w.heap.size ∧ ∀ i, i < n → w.cell? ⟨b, o + i, none⟩ = some (cs i) := by
  rcases h with h | h
  · omega
  · exact h
theorem Row.below {w W : World} {A : Option Addr} {n : Nat} {cs : Nat → Value} (h : Row w A n cs) (hb : Below w.heap.size w W) : Row W A n cs := by
  rcases h with h | ⟨b, o, hA, hlt, hc⟩
  · exact .inl h
  · exact .inr ⟨b, o, hA, Nat.lt_of_lt_of_le hlt hb.size, fun i hi => (hb.cell (p := ⟨b, o + i, none⟩) hlt).trans (hc i hi)⟩
theorem Row.nil (w : World) (A : Option Addr) (cs : Nat → Value) : Row w A 0 cs := .inl rfl

/-- Natural numbers; integers; pairs of natural numbers (arcs); pairs of a number and a cost; lists of natural numbers. -/
def natc (xs : List Nat) (i : Nat) : Value := .int .i64 ((xs.getD i 0 : Nat) : Int)
def intc (xs : List Int) (i : Nat) : Value := .int .i64 (xs.getD i 0)
def Nats (w : World) (A : Option Addr) (xs : List Nat) : Prop := Row w A xs.length (natc xs)
def Ints (w : World) (A : Option Addr) (xs : List Int) : Prop := Row w A xs.length (intc xs)
theorem Nats.below {w W : World} {A : Option Addr} {xs : List Nat} (h : Nats w A xs) (hb : Below w.heap.size w W) : Nats W A xs := Row.below h hb
theorem Ints.below {w W : World} {A : Option Addr} {xs : List Int} (h : Ints w A xs) (hb : Below w.heap.size w W) : Ints W A xs := Row.below h hb
theorem Nats.at_ {w : World} {A : Option Addr} {xs : List Nat} (h : Nats w A xs) {k : Nat} (hk : k < xs.length) :
    ∃ b o, A = some ⟨b, o, none⟩ ∧ b < w.heap.size ∧ w.cell? ⟨b, o + k, none⟩ = some (.int .i64 ((xs.getD k 0 : Nat) : Int)) := by
  obtain ⟨b, o, hA, hb, hc⟩ := Row.get h (by omega)
  exact ⟨b, o, hA, hb, hc k hk⟩
theorem Ints.at_ {w : World} {A : Option Addr} {xs : List Int} (h : Ints w A xs) {k : Nat} (hk : k < xs.length) :
    ∃ b o, A = some ⟨b, o, none⟩ ∧ b < w.heap.size ∧ w.cell? ⟨b, o + k, none⟩ = some (.int .i64 (xs.getD k 0)) := by
  obtain ⟨b, o, hA, hb, hc⟩ := Row.get h (by omega)
  exact ⟨b, o, hA, hb, hc k hk⟩

/-- Arcs: two cells each. -/
def Arcs (w : World) (A : Option Addr) (xs : List (Nat × Nat)) : Prop :=
  xs.length = 0 ∨ ∃ b o, A = some ⟨b, o, none⟩ ∧ b < w.heap.size ∧ ∀ i, i < xs.length → w.cell? ⟨b, o + i * 2, none⟩ = some (.int .i64 (((xs.getD i (0, 0)).1 : Nat) : Int)) ∧ w.cell? ⟨b, o + i * 2 + 1, none⟩ = some (.int .i64 (((xs.getD i (0, 0)).2 : Nat) : Int))
theorem Arcs.below {w W : World} {A : Option Addr} {xs : List (Nat × Nat)} (h : Arcs w A xs) (hb : Below w.heap.size w W) : Arcs W A xs := by
  rcases h with h | ⟨b, o, hA, hlt, hc⟩
  · exact .inl h
  · exact .inr ⟨b, o, hA, Nat.lt_of_lt_of_le hlt hb.size, fun i hi => ⟨(hb.cell (p := ⟨b, o + i * 2, none⟩) hlt).trans (hc i hi).1, (hb.cell (p := ⟨b, o + i * 2 + 1, none⟩) hlt).trans (hc i hi).2⟩⟩
theorem Arcs.at_ {w : World} {A : Option Addr} {xs : List (Nat × Nat)} (h : Arcs w A xs) {k : Nat} (hk : k < xs.length) :
    ∃ b o, A = some ⟨b, o, none⟩ ∧ b < w.heap.size ∧ w.cell? ⟨b, o + k * 2, none⟩ = some (.int .i64 (((xs.getD k (0, 0)).1 : Nat) : Int)) ∧ w.cell? ⟨b, o + k * 2 + 1, none⟩ = some (.int .i64 (((xs.getD k (0, 0)).2 : Nat) : Int)) := by
  rcases h with h | ⟨b, o, hA, hb, hc⟩
  · omega
  · exact ⟨b, o, hA, hb, (hc k hk).1, (hc k hk).2⟩

/-- Costs: a vertex and a cost each. -/
def Pairs (w : World) (A : Option Addr) (xs : List (Nat × Int)) : Prop :=
  xs.length = 0 ∨ ∃ b o, A = some ⟨b, o, none⟩ ∧ b < w.heap.size ∧ ∀ i, i < xs.length → w.cell? ⟨b, o + i * 2, none⟩ = some (.int .i64 (((xs.getD i (0, 0)).1 : Nat) : Int)) ∧ w.cell? ⟨b, o + i * 2 + 1, none⟩ = some (.int .i64 (xs.getD i (0, 0)).2)
theorem Pairs.below {w W : World} {A : Option Addr} {xs : List (Nat × Int)} (h : Pairs w A xs) (hb : Below w.heap.size w W) : Pairs W A xs := by
  rcases h with h | ⟨b, o, hA, hlt, hc⟩
  · exact .inl h
  · exact .inr ⟨b, o, hA, Nat.lt_of_lt_of_le hlt hb.size, fun i hi => ⟨(hb.cell (p := ⟨b, o + i * 2, none⟩) hlt).trans (hc i hi).1, (hb.cell (p := ⟨b, o + i * 2 + 1, none⟩) hlt).trans (hc i hi).2⟩⟩
theorem Pairs.at_ {w : World} {A : Option Addr} {xs : List (Nat × Int)} (h : Pairs w A xs) {k : Nat} (hk : k < xs.length) :
    ∃ b o, A = some ⟨b, o, none⟩ ∧ b < w.heap.size ∧ w.cell? ⟨b, o + k * 2, none⟩ = some (.int .i64 (((xs.getD k (0, 0)).1 : Nat) : Int)) ∧ w.cell? ⟨b, o + k * 2 + 1, none⟩ = some (.int .i64 (xs.getD k (0, 0)).2) := by
  rcases h with h | ⟨b, o, hA, hb, hc⟩
  · omega
  · exact ⟨b, o, hA, hb, (hc k hk).1, (hc k hk).2⟩

/-- Lists of natural numbers: a slice each. -/
def Lists (w : World) (A : Option Addr) (xs : List (List Nat)) : Prop :=
  xs.length = 0 ∨ ∃ b o, A = some ⟨b, o, none⟩ ∧ b < w.heap.size ∧ ∀ i, i < xs.length → ∃ A' c', w.cell? ⟨b, o + i, none⟩ = some (.slice A' (xs.getD i []).length c') ∧ (xs.getD i []).length ≤ c' ∧ Nats w A' (xs.getD i [])
theorem Lists.below {w W : World} {A : Option Addr} {xs : List (List Nat)} (h : Lists w A xs) (hb : Below w.heap.size w W) : Lists W A xs := by
  rcases h with h | ⟨b, o, hA, hlt, hc⟩
  · exact .inl h
  · refine .inr ⟨b, o, hA, Nat.lt_of_lt_of_le hlt hb.size, fun i hi => ?_⟩
    obtain ⟨A', c', h1, h2, h3⟩ := hc i hi
    exact ⟨A', c', (hb.cell (p := ⟨b, o + i, none⟩) hlt).trans h1, h2, h3.below hb⟩
theorem Lists.at_ {w : World} {A : Option Addr} {xs : List (List Nat)} (h : Lists w A xs) {k : Nat} (hk : k < xs.length) :
    ∃ b o A' c', A = some ⟨b, o, none⟩ ∧ b < w.heap.size ∧ w.cell? ⟨b, o + k, none⟩ = some (.slice A' (xs.getD k []).length c') ∧ (xs.getD k []).length ≤ c' ∧ Nats w A' (xs.getD k []) := by
  rcases h with h | ⟨b, o, hA, hb, hc⟩
  · omega
  · obtain ⟨A', c', h1, h2, h3⟩ := hc k hk
    exact ⟨b, o, A', c', hA, hb, h1, h2, h3⟩

/-! ### what the walk sees of a later world -/
theorem hid {p : Prop} (h : p) : Hid p := h

/-- The row lies in a block from B on. -/
def Fresh (B : Nat) (A : Option Addr) : Prop := ∀ ad, A = some ad → B ≤ ad.block
theorem Fresh.mono {B B' : Nat} {A : Option Addr} (h : Fresh B A) (hb : B' ≤ B) : Fresh B' A := fun ad e => Nat.le_trans hb (h ad e)
theorem Fresh.none (B : Nat) : Fresh B none := fun _ e => by cases e
theorem set_other {w : World} {b o : Nat} {p : Addr} (u : Value) (h : b ≠ p.block) : (w.setCell p u).cell? ⟨b, o, none⟩ = w.cell? ⟨b, o, none⟩ :=
  World.cell?_of_block (Below.heap_setCell w p u b h)
theorem Row.far {w : World} {A : Option Addr} {n : Nat} {cs : Nat → Value} {p : Addr} (h : Row w A n cs) (hf : ∀ ad, A = some ad → ad.block ≠ p.block) (u : Value) : Row (w.setCell p u) A n cs := by
  rcases h with h | ⟨b, o, hA, hlt, hc⟩
  · exact .inl h
  · exact .inr ⟨b, o, hA, by simpa [World.setCell] using hlt, fun i hi => (set_other u (hf _ hA)).trans (hc i hi)⟩
theorem Nats.far {w : World} {A : Option Addr} {xs : List Nat} {p : Addr} (h : Nats w A xs) (hf : ∀ ad, A = some ad → ad.block ≠ p.block) (u : Value) : Nats (w.setCell p u) A xs := Row.far h hf u
theorem Ints.far {w : World} {A : Option Addr} {xs : List Int} {p : Addr} (h : Ints w A xs) (hf : ∀ ad, A = some ad → ad.block ≠ p.block) (u : Value) : Ints (w.setCell p u) A xs := Row.far h hf u
theorem Arcs.far {w : World} {A : Option Addr} {xs : List (Nat × Nat)} {p : Addr} (h : Arcs w A xs) (hf : ∀ ad, A = some ad → ad.block ≠ p.block) (u : Value) : Arcs (w.setCell p u) A xs := by
  rcases h with h | ⟨b, o, hA, hlt, hc⟩
  · exact .inl h
  · exact .inr ⟨b, o, hA, by simpa [World.setCell] using hlt, fun i hi => ⟨(set_other u (hf _ hA)).trans (hc i hi).1, (set_other u (hf _ hA)).trans (hc i hi).2⟩⟩
theorem Pairs.far {w : World} {A : Option Addr} {xs : List (Nat × Int)} {p : Addr} (h : Pairs w A xs) (hf : ∀ ad, A = some ad → ad.block ≠ p.block) (u : Value) : Pairs (w.setCell p u) A xs := by
  rcases h with h | ⟨b, o, hA, hlt, hc⟩
  · exact .inl h
  · exact .inr ⟨b, o, hA, by simpa [World.setCell] using hlt, fun i hi => ⟨(set_other u (hf _ hA)).trans (hc i hi).1, (set_other u (hf _ hA)).trans (hc i hi).2⟩⟩
/-- A block of cells, read, written. -/
theorem blk_cell' {w : World} {g : Nat} {t : TypeId} {cs : Array Value} {fr : Nat × Nat} (h : w.heap[g]? = some (.cells cs t fr)) (i : Nat) : w.cell? ⟨g, i, none⟩ = cs[i]? := by simp [World.cell?, h]
theorem blk_free {w : World} {g : Nat} {t : TypeId} {cs : Array Value} (h : w.heap[g]? = some (.cells cs t (0, 0))) (i : Nat) : w.frozen? ⟨g, i, none⟩ = false := by simp [World.frozen?, h]
theorem blk_set' {w : World} {g : Nat} {t : TypeId} {cs : Array Value} {fr : Nat × Nat} (h : w.heap[g]? = some (.cells cs t fr)) (i : Nat) (u : Value) : (w.setCell ⟨g, i, none⟩ u).heap[g]? = some (.cells (cs.setIfInBounds i u) t fr) := by
  simp [World.setCell, Array.getElem?_modify, h]
theorem blk_far' {w : World} {g : Nat} {o : Obj} (h : w.heap[g]? = some o) {p : Addr} (hp : g ≠ p.block) (u : Value) : (w.setCell p u).heap[g]? = some o := (Below.heap_setCell w p u g hp).trans h
theorem new_blk (w : World) (cs : Array Value) (t : TypeId) : (w.alloc (.cells cs t)).heap[w.heap.size]? = some (.cells cs t (0, 0)) := heap_alloc_new w _

/-! ### maps as functions: an element reads as itself -/
def anyElem (v : Value) : Option (DataW Value × List MemPlace) := some (.held v, [])
def viewOf (D : DataW Value) (kl : Lit) : Option Value := match D.atKey kl .nil with | .held v => some v | _ => none
/-- Block b is a map with keys of type k, of at most n entries; at a key that reads as kl it holds m kl. -/
def MapF (w : World) (k : TypeId) (b n : Nat) (m : Lit → Option Value) : Prop :=
  ∃ D, w.ownsMap Try.prog k anyElem b n D ∧ ∀ key kl, keyOf Try.prog k key = some kl → viewOf D kl = m kl

theorem MapF.made (w : World) (k : TypeId) : MapF (w.alloc (.map #[] 0)) k w.heap.size 0 (fun _ => none) :=
  ⟨.map [], World.ownsMap_made _ _ _ _, fun _ _ _ => rfl⟩
theorem MapF.lt {w : World} {k : TypeId} {b n : Nat} {m : Lit → Option Value} (h : MapF w k b n m) : b < w.heap.size := by obtain ⟨D, h, _⟩ := h; exact h.lt
theorem MapF.kept {w w' : World} {k : TypeId} {b n : Nat} {m : Lit → Option Value} {row : Option Nat} (h : MapF w k b n m) (hg : w.grownBy w' row) (hne : some b ≠ row) : MapF w' k b n m := by
  obtain ⟨D, h, hv⟩ := h; exact ⟨D, h.kept hg hne, hv⟩
theorem MapF.same {w w' : World} {k : TypeId} {b n : Nat} {m : Lit → Option Value} (h : MapF w k b n m) (hb : w'.heap[b]? = w.heap[b]?) : MapF w' k b n m := by
  obtain ⟨D, ⟨es, clock, hes, r⟩, hv⟩ := h; exact ⟨D, ⟨es, clock, hb.trans hes, r⟩, hv⟩
theorem MapF.below {w w' : World} {k : TypeId} {b n : Nat} {m : Lit → Option Value} (h : MapF w k b n m) (hb : Below w.heap.size w w') : MapF w' k b n m := h.same (hb.block b h.lt)
theorem MapF.mono {w : World} {k : TypeId} {b n n' : Nat} {m : Lit → Option Value} (h : MapF w k b n m) (hn : n ≤ n') : MapF w k b n' m := by
  obtain ⟨D, h, hv⟩ := h; exact ⟨D, h.mono hn, hv⟩

theorem MapF.look {w : World} {k t e : TypeId} {b n : Nat} {m : Lit → Option Value} (h : MapF w k b n m) (K : Keyed Try.prog k) (ht : Try.prog.underlying t = some (.map k e)) {z : Value} (hz : (zeroValue e).run Try.prog w = .ok z w)
    (c : Bool) {key : Value} {kl : Lit} (hkey : keyOf Try.prog k key = some kl) :
    (Instr.lookup t (.map (some b)) key c).run Try.prog w = .ok (if c then .tuple #[(m kl).getD z, .bool (m kl).isSome] else (m kl).getD z) w := by
  obtain ⟨D, ⟨es, clock, hb, F, _, rfl⟩, hv⟩ := h
  have hv := hv key kl hkey
  rcases Maps.fit_look c K ht hz hb F hkey with ⟨hrun, _, hat⟩ | ⟨e0, y, _, _, hrun, hRv, hat, _⟩
  · have : m kl = none := by rw [← hv]; simp [viewOf, hat]
    simp [this, hrun]
  · have hy : y = (.held e0.val, []) := by simpa [anyElem] using hRv.symm
    have : m kl = some e0.val := by rw [← hv]; simp [viewOf, hat, hy]
    simp [this, hrun]

theorem MapF.store {w : World} {k t e : TypeId} {b n : Nat} {m m' : Lit → Option Value} (h : MapF w k b n m) (K : Keyed Try.prog k) (ht : Try.prog.underlying t = some (.map k e)) (hn : n < maxLen)
    {key val : Value} {kl : Lit} (hkey : keyOf Try.prog k key = some kl) (h1 : m' kl = some val) (h2 : ∀ key' kl', keyOf Try.prog k key' = some kl' → kl' ≠ kl → m' kl' = m kl') :
    ∃ w', (Instr.mapUpdate t (.map (some b)) key val).run Try.prog w = .ok () w' ∧ MapF w' k b (n + 1) m' ∧ w.grownBy w' (some b) := by
  obtain ⟨D, h, hv⟩ := h
  obtain ⟨w', hrun, hown, hg⟩ := h.update K ht hn hkey (show anyElem val = some (.held val, []) from rfl)
  refine ⟨w', hrun, ⟨_, hown, fun key' kl' hk' => ?_⟩, hg⟩
  by_cases e : kl' = kl
  · subst e
    rw [h1]
    simp [viewOf, atKey_put_same h.isMap (K.key hkey)]
  · rw [h2 key' kl' hk' e, ← hv key' kl' hk']
    simp [viewOf, atKey_put_other e]

/-- Keys: integers; pairs of integers. -/
theorem keyI : Keyed Try.prog 3 := int_keyed Try.underlying3
theorem laidOutP : laidOutB Try.prog = true := by kernel_rfl
theorem rowP : (138 : TypeId) < Try.prog.types.size := of_decide_eq_true (by kernel_rfl)
theorem wideP : (match Try.prog.underlying 138 with | some (.array _ _) | some (.struct _) => true | _ => false) = true := by rw [Try.underlying138]
set_option maxRecDepth 100000 in
theorem keyP : Keyed Try.prog 138 := Keyed.of_law (deep_law_laid laidOutP (m := 2) (by omega) rowP (by kernel_rfl) wideP)
theorem wfN (a : Nat) (h : a < 9223372036854775808) : (Lit.int .i64 (a : Int)).wf = true := by
  exact WalkArith.wf_i64 ⟨by omega, by omega⟩
theorem keyI_of (a : Nat) (h : a < 9223372036854775808) : keyOf Try.prog 3 (.int .i64 (a : Int)) = some (.int .i64 (a : Int)) := keyOf_int_mk Try.underlying3 (wfN a h)

/-- What a pair of numbers reads as, as a key. -/
def pk (a c : Nat) : Lit := .string (keyBytes [.int .i64 (a : Int), .int .i64 (c : Int)])
theorem keyLitsP (d : Nat) (a c : Nat) (ha : a < 9223372036854775808) (hc : c < 9223372036854775808) :
    Try.prog.keyLits (d + 2) 138 [.int .i64 (a : Int), .int .i64 (c : Int)] = some [.int .i64 (a : Int), .int .i64 (c : Int)] := by
  have c1 : Try.prog.cellsOf 138 = 2 := by kernel_rfl
  have c2 : Try.prog.cellsOf 3 = 1 := by kernel_rfl
  simp [Program.keyLits, Try.underlying138, c1, c2, List.range_succ, wfN a ha, wfN c hc, Try.underlying3]
theorem keyP_of (a c : Nat) (ha : a < 9223372036854775808) (hc : c < 9223372036854775808) : keyOf Try.prog 138 (.agg #[.int .i64 (a : Int), .int .i64 (c : Int)]) = some (pk a c) := by
  have k1 : Try.prog.keyType 138 = true := by kernel_rfl
  have c1 : Try.prog.cellsOf 138 = 2 := by kernel_rfl
  have hn : Try.prog.types.size + 1 = (Try.prog.types.size - 1) + 2 := by have h : (138 : Nat) < Try.prog.types.size := rowP; omega
  have hk := keyLitsP (Try.prog.types.size - 1) a c ha hc
  rw [← hn] at hk
  unfold keyOf
  rw [Try.underlying138]
  simp only [Value.formed, Try.underlying138, k1, c1, Value.cells, List.size_toArray, List.length_cons, List.length_nil]
  rw [hk]
  rfl
theorem pk_inj {a c a' c' : Nat} (ha : a < 9223372036854775808) (hc : c < 9223372036854775808) (ha' : a' < 9223372036854775808) (hc' : c' < 9223372036854775808) (h : pk a c = pk a' c') : a = a' ∧ c = c' := by
  have := keyP.inj (keyP_of a c ha hc) (h ▸ keyP_of a' c' ha' hc')
  simp at this; omega

/-- Maps with numbers as keys; with pairs of numbers as keys. -/
def NMap (w : World) (b n : Nat) (f : Nat → Option Value) : Prop := ∃ m, MapF w 3 b n m ∧ ∀ a : Nat, a < 9223372036854775808 → m (.int .i64 (a : Int)) = f a
def PMap (w : World) (b n : Nat) (f : Nat → Nat → Option Value) : Prop := ∃ m, MapF w 138 b n m ∧ ∀ a c : Nat, a < 9223372036854775808 → c < 9223372036854775808 → m (pk a c) = f a c
theorem NMap.made (w : World) : NMap (w.alloc (.map #[] 0)) w.heap.size 0 (fun _ => none) := ⟨_, MapF.made w _, fun _ _ => rfl⟩
theorem PMap.made (w : World) : PMap (w.alloc (.map #[] 0)) w.heap.size 0 (fun _ _ => none) := ⟨_, MapF.made w _, fun _ _ _ _ => rfl⟩
theorem NMap.lt {w : World} {b n : Nat} {f : Nat → Option Value} (h : NMap w b n f) : b < w.heap.size := by obtain ⟨m, h, _⟩ := h; exact h.lt
theorem PMap.lt {w : World} {b n : Nat} {f : Nat → Nat → Option Value} (h : PMap w b n f) : b < w.heap.size := by obtain ⟨m, h, _⟩ := h; exact h.lt
theorem NMap.same {w w' : World} {b n : Nat} {f : Nat → Option Value} (h : NMap w b n f) (hb : w'.heap[b]? = w.heap[b]?) : NMap w' b n f := by obtain ⟨m, h, hv⟩ := h; exact ⟨m, h.same hb, hv⟩
theorem PMap.same {w w' : World} {b n : Nat} {f : Nat → Nat → Option Value} (h : PMap w b n f) (hb : w'.heap[b]? = w.heap[b]?) : PMap w' b n f := by obtain ⟨m, h, hv⟩ := h; exact ⟨m, h.same hb, hv⟩
theorem NMap.below {w w' : World} {b n : Nat} {f : Nat → Option Value} (h : NMap w b n f) (hb : Below w.heap.size w w') : NMap w' b n f := h.same (hb.block b h.lt)
theorem PMap.below {w w' : World} {b n : Nat} {f : Nat → Nat → Option Value} (h : PMap w b n f) (hb : Below w.heap.size w w') : PMap w' b n f := h.same (hb.block b h.lt)
theorem NMap.kept {w w' : World} {b n : Nat} {f : Nat → Option Value} {row : Option Nat} (h : NMap w b n f) (hg : w.grownBy w' row) (hne : some b ≠ row) : NMap w' b n f := by obtain ⟨m, h, hv⟩ := h; exact ⟨m, h.kept hg hne, hv⟩
theorem PMap.kept {w w' : World} {b n : Nat} {f : Nat → Nat → Option Value} {row : Option Nat} (h : PMap w b n f) (hg : w.grownBy w' row) (hne : some b ≠ row) : PMap w' b n f := by obtain ⟨m, h, hv⟩ := h; exact ⟨m, h.kept hg hne, hv⟩
theorem NMap.mono {w : World} {b n n' : Nat} {f : Nat → Option Value} (h : NMap w b n f) (hn : n ≤ n') : NMap w b n' f := by obtain ⟨m, h, hv⟩ := h; exact ⟨m, h.mono hn, hv⟩
theorem PMap.mono {w : World} {b n n' : Nat} {f : Nat → Nat → Option Value} (h : PMap w b n f) (hn : n ≤ n') : PMap w b n' f := by obtain ⟨m, h, hv⟩ := h; exact ⟨m, h.mono hn, hv⟩

theorem NMap.look {w : World} {t e b n : Nat} {f : Nat → Option Value} (h : NMap w b n f) (ht : Try.prog.underlying t = some (.map 3 e)) {z : Value} (hz : (zeroValue e).run Try.prog w = .ok z w) (c : Bool) (a : Nat) (ha : a < 9223372036854775808) :
    (Instr.lookup t (.map (some b)) (.int .i64 (a : Int)) c).run Try.prog w = .ok (if c then .tuple #[(f a).getD z, .bool (f a).isSome] else (f a).getD z) w := by
  obtain ⟨m, h, hv⟩ := h
  rw [← hv a ha]
  exact h.look keyI ht hz c (keyI_of a ha)
theorem PMap.look {w : World} {t e b n : Nat} {f : Nat → Nat → Option Value} (h : PMap w b n f) (ht : Try.prog.underlying t = some (.map 138 e)) {z : Value} (hz : (zeroValue e).run Try.prog w = .ok z w) (c : Bool) (a d : Nat) (ha : a < 9223372036854775808) (hd : d < 9223372036854775808) :
    (Instr.lookup t (.map (some b)) (.agg #[.int .i64 (a : Int), .int .i64 (d : Int)]) c).run Try.prog w = .ok (if c then .tuple #[(f a d).getD z, .bool (f a d).isSome] else (f a d).getD z) w := by
  obtain ⟨m, h, hv⟩ := h
  rw [← hv a d ha hd]
  exact h.look keyP ht hz c (keyP_of a d ha hd)

/-- m[a] = v. -/
def nput (f : Nat → Option Value) (a : Nat) (v : Value) : Nat → Option Value := fun x => if x = a then some v else f x
def pput (f : Nat → Nat → Option Value) (a c : Nat) (v : Value) : Nat → Nat → Option Value := fun x y => if x = a ∧ y = c then some v else f x y
open Classical in
theorem NMap.store {w : World} {t e b n : Nat} {f : Nat → Option Value} (h : NMap w b n f) (ht : Try.prog.underlying t = some (.map 3 e)) (hn : n < maxLen) (a : Nat) (ha : a < 9223372036854775808) (v : Value) :
    ∃ w', (Instr.mapUpdate t (.map (some b)) (.int .i64 (a : Int)) v).run Try.prog w = .ok () w' ∧ NMap w' b (n + 1) (nput f a v) ∧ w.grownBy w' (some b) := by
  obtain ⟨m, h, hv⟩ := h
  obtain ⟨w', hr, h', hg⟩ := h.store (val := v) (m' := fun kl => if kl = .int .i64 (a : Int) then some v else m kl) keyI ht hn (keyI_of a ha) (by simp) (fun _ kl' _ hne => by simp [hne])
  refine ⟨w', hr, ⟨_, h', fun x hx => ?_⟩, hg⟩
  simp only [nput, Lit.int.injEq, true_and]
  by_cases e : x = a
  · simp [e]
  · have : ¬ (x : Int) = (a : Int) := by omega
    simp [e, this, hv x hx]
open Classical in
theorem PMap.store {w : World} {t e b n : Nat} {f : Nat → Nat → Option Value} (h : PMap w b n f) (ht : Try.prog.underlying t = some (.map 138 e)) (hn : n < maxLen) (a c : Nat) (ha : a < 9223372036854775808) (hc : c < 9223372036854775808) (v : Value) :
    ∃ w', (Instr.mapUpdate t (.map (some b)) (.agg #[.int .i64 (a : Int), .int .i64 (c : Int)]) v).run Try.prog w = .ok () w' ∧ PMap w' b (n + 1) (pput f a c v) ∧ w.grownBy w' (some b) := by
  obtain ⟨m, h, hv⟩ := h
  obtain ⟨w', hr, h', hg⟩ := h.store (val := v) (m' := fun kl => if kl = pk a c then some v else m kl) keyP ht hn (keyP_of a c ha hc) (by simp) (fun _ kl' _ hne => by simp [hne])
  refine ⟨w', hr, ⟨_, h', fun x y hx hy => ?_⟩, hg⟩
  simp only [pput]
  by_cases e : x = a ∧ y = c
  · simp [e.1, e.2]
  · have : ¬ pk x y = pk a c := fun h => e (pk_inj hx hy ha hc h)
    simp [e, this, hv x y hx hy]

/-! ### the map's operations, at the operation -/
section
variable (w : World) {ops : Array Oper} {rest : List Oper} {o : Oper} {a : Act} {Q : Exit → Act → World → Prop}
theorem wp_lookN (hg : o.guard = none) (m x : Operand) (t : TypeId) (c : Bool) (hop : o.op = Op.lookup t m x c) (e : Nat) (ht : Try.prog.underlying t = some (.map 3 e)) (z : Value) (hz : (zeroValue e).run Try.prog w = .ok z w) (b n : Nat) (f : Nat → Option Value)
    (hm : a.eval m = .map (some b)) (h : NMap w b n f) (k : Nat) (hk : k < 9223372036854775808) (hx : a.eval x = .int .i64 (k : Int)) (r : Value) (hr : (if c then Value.tuple #[(f k).getD z, .bool (f k).isSome] else (f k).getD z) = r)
    (hK : wpList Try.prog ops Q rest (a.put o.dst r) w) : wpList Try.prog ops Q (o :: rest) a w := by
  refine wpList_plain hg fun K' hK' => ?_
  have hrun := h.look ht hz c k hk
  rw [hr] at hrun
  unfold Oper.wp
  simp [execOp, hop, hm, hx, hrun, Result.andThen]
  exact hK' _ _ hK
theorem wp_storeN (hg : o.guard = none) (m x v : Operand) (t : TypeId) (hop : o.op = Op.mapUpdate t m x v) (e : Nat) (ht : Try.prog.underlying t = some (.map 3 e)) (b n : Nat) (f : Nat → Option Value)
    (hm : a.eval m = .map (some b)) (h : NMap w b n f) (hn : n < 9223372036854775807) (k : Nat) (hk : k < 9223372036854775808) (hx : a.eval x = .int .i64 (k : Int)) (r : Value) (hv : a.eval v = r)
    (hK : ∀ w', NMap w' b (n + 1) (nput f k r) → w.grownBy w' (some b) → wpList Try.prog ops Q rest (a.put o.dst undef) w') : wpList Try.prog ops Q (o :: rest) a w := by
  refine wpList_plain hg fun K' hK' => ?_
  obtain ⟨w', hrun, h1, h2⟩ := h.store ht hn k hk r
  unfold Oper.wp
  simp [execOp, hop, hm, hx, hv, hrun, Result.andThen]
  exact hK' _ _ (hK w' h1 h2)
theorem wp_storeP (hg : o.guard = none) (m x v : Operand) (t : TypeId) (hop : o.op = Op.mapUpdate t m x v) (e : Nat) (ht : Try.prog.underlying t = some (.map 138 e)) (b n : Nat) (f : Nat → Nat → Option Value)
    (hm : a.eval m = .map (some b)) (h : PMap w b n f) (hn : n < 9223372036854775807) (k l : Nat) (hk : k < 9223372036854775808) (hl : l < 9223372036854775808) (hx : a.eval x = .agg #[.int .i64 (k : Int), .int .i64 (l : Int)]) (r : Value) (hv : a.eval v = r)
    (hK : ∀ w', PMap w' b (n + 1) (pput f k l r) → w.grownBy w' (some b) → wpList Try.prog ops Q rest (a.put o.dst undef) w') : wpList Try.prog ops Q (o :: rest) a w := by
  refine wpList_plain hg fun K' hK' => ?_
  obtain ⟨w', hrun, h1, h2⟩ := h.store ht hn k l hk hl r
  unfold Oper.wp
  simp [execOp, hop, hm, hx, hv, hrun, Result.andThen]
  exact hK' _ _ (hK w' h1 h2)
end

end Go.Proofs.Ytpfjannhggcmiaa
