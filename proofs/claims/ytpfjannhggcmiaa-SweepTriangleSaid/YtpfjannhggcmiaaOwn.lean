/- A hierarchy under construction, in memory; the contract of add, which appends an edge. -/
import Derived.Test.YtpfjannhggcmiaaElim
namespace Go.Proofs.Ytpfjannhggcmiaa
open Go.RowKit Go.Maps

/-- Blocks of the classes that C lets change may change; no other. -/
structure Keeps (C : Nat × Nat → Prop) (w : World) (lab : Lab) (w' : World) (lab' : Lab) : Prop where
  size : w.heap.size ≤ w'.heap.size
  labs : ∀ k, k < w.heap.size → lab' k = lab k
  block : ∀ k, k < w.heap.size → ¬ C (lab k) → w'.heap[k]? = w.heap[k]?
theorem Keeps.refl (C : Nat × Nat → Prop) (w : World) (lab : Lab) : Keeps C w lab w lab := ⟨Nat.le_refl _, fun _ _ => rfl, fun _ _ _ => rfl⟩
theorem Keeps.mono {C C' : Nat × Nat → Prop} {w w' : World} {lab lab' : Lab} (h : Keeps C w lab w' lab') (hC : ∀ p, C p → C' p) : Keeps C' w lab w' lab' := ⟨h.size, h.labs, fun k hk hn => h.block k hk (fun hc => hn (hC _ hc))⟩
theorem Keeps.trans {C : Nat × Nat → Prop} {w w1 w2 : World} {lab lab1 lab2 : Lab} (h : Keeps C w lab w1 lab1) (h2 : Keeps C w1 lab1 w2 lab2) : Keeps C w lab w2 lab2 where
  size := Nat.le_trans h.size h2.size
  labs := fun k hk => (h2.labs k (Nat.lt_of_lt_of_le hk h.size)).trans (h.labs k hk)
  block := fun k hk hn => (h2.block k (Nat.lt_of_lt_of_le hk h.size) (by rw [h.labs k hk]; exact hn)).trans (h.block k hk hn)
theorem Keeps.below {C : Nat × Nat → Prop} {w w' : World} (lab : Lab) (h : Below w.heap.size w w') : Keeps C w lab w' lab := ⟨h.size, fun _ _ => rfl, fun k hk _ => h.block k hk⟩

/-- A row that is read: its block has class 0. -/
def RO (w : World) (lab : Lab) (A : Option Addr) : Prop := ∀ ad, A = some ad → ad.block < w.heap.size ∧ (lab ad.block).1 = 0
theorem RO.keeps {C : Nat × Nat → Prop} {w w' : World} {lab lab' : Lab} {A : Option Addr} (h : RO w lab A) (hk : Keeps C w lab w' lab') : RO w' lab' A := fun ad e => by
  obtain ⟨h1, h2⟩ := h ad e
  exact ⟨Nat.lt_of_lt_of_le h1 hk.size, by rw [hk.labs _ h1]; exact h2⟩
theorem Row.same {w w' : World} {A : Option Addr} {n : Nat} {cs : Nat → Value} (h : Row w A n cs) (hs : w.heap.size ≤ w'.heap.size) (hb : ∀ ad, A = some ad → w'.heap[ad.block]? = w.heap[ad.block]?) : Row w' A n cs := by
  rcases h with h | ⟨b, o, hA, hlt, hc⟩
  · exact .inl h
  · exact .inr ⟨b, o, hA, Nat.lt_of_lt_of_le hlt hs, fun i hi => (World.cell?_of_block (show w'.heap[(⟨b, o + i, none⟩ : Addr).block]? = w.heap[(⟨b, o + i, none⟩ : Addr).block]? from hb ⟨b, o, none⟩ hA)).trans (hc i hi)⟩
theorem RO.row {C : Nat × Nat → Prop} {w w' : World} {lab lab' : Lab} {A : Option Addr} {n : Nat} {cs : Nat → Value} (h : RO w lab A) (hC : ∀ i, ¬ C (0, i)) (hk : Keeps C w lab w' lab') (hr : Row w A n cs) : Row w' A n cs :=
  hr.same hk.size (fun ad e => by
    obtain ⟨h1, h2⟩ := h ad e
    refine hk.block _ h1 ?_
    have : lab ad.block = (0, (lab ad.block).2) := by rw [← h2]
    rw [this]
    exact hC _)
theorem RO.nats {C : Nat × Nat → Prop} {w w' : World} {lab lab' : Lab} {A : Option Addr} {xs : List Nat} (h : RO w lab A) (hC : ∀ i, ¬ C (0, i)) (hk : Keeps C w lab w' lab') (hr : Nats w A xs) : Nats w' A xs := h.row hC hk hr
theorem RO.arcs {C : Nat × Nat → Prop} {w w' : World} {lab lab' : Lab} {A : Option Addr} {xs : List (Nat × Nat)} (h : RO w lab A) (hC : ∀ i, ¬ C (0, i)) (hk : Keeps C w lab w' lab') (hr : Arcs w A xs) : Arcs w' A xs := arcs_row.2 (h.row hC hk (arcs_row.1 hr))

/-- The cells of a hierarchy. -/
def hcells (D : HD) (Aa : Option Addr) (ca : Nat) (Ao : Option Addr) (co : Nat) (Ar : Option Addr) (cr : Nat) (ve : Value) (nb gu gd : Nat) : Array Value :=
  #[.int .i64 (D.n : Int), .slice Aa D.arcs.length ca, .slice Ao D.n co, .slice Ar D.n cr, ve, .map (some nb), .slice (some ⟨gu, 0, none⟩) D.n D.n, .slice (some ⟨gd, 0, none⟩) D.n D.n]
/-- A hierarchy that is being built: its own blocks have the classes 1 (rows up), 2 (rows down), 3 (edges), 4 (the struct, the map). -/
structure HOwn (w : World) (lab : Lab) (base h : Nat) (D : HD) (Aa : Option Addr) (ca : Nat) (Ao : Option Addr) (co : Nat) (Ar : Option Addr) (cr : Nat) (ve : Value) (nb gu gd : Nat) : Prop where
  base_le : base ≤ h
  base_nb : base ≤ nb
  labh : lab h = (4, 0)
  labnb : lab nb = (4, 1)
  blk : w.heap[h]? = some (.cells (hcells D Aa ca Ao co Ar cr ve nb gu gd) 115 (0, 0))
  capa : D.arcs.length ≤ ca
  capo : D.n ≤ co
  capr : D.n ≤ cr
  roa : RO w lab Aa
  roo : RO w lab Ao
  ror : RO w lab Ar
  arcs : Arcs w Aa D.arcs
  order : Nats w Ao D.order
  ranks : Nats w Ar D.ranks
  edges : w.ownsRow base 48 2 ve D.edges.length (D.edges.flatMap arcv)
  labe : ∀ k, ve.ownBlock = some k → lab k = (3, 0)
  num : PMap w nb D.edges.length (fun u v => (D.num u v).map natv)
  up : TabAt w lab 1 base gu D.up
  down : TabAt w lab 2 base gd D.down

section
variable {w w' : World} {lab lab' : Lab} {base h : Nat} {D : HD} {Aa : Option Addr} {ca : Nat} {Ao : Option Addr} {co : Nat} {Ar : Option Addr} {cr : Nat} {ve : Value} {nb gu gd : Nat}
theorem HOwn.keeps {C : Nat × Nat → Prop} (H : HOwn w lab base h D Aa ca Ao co Ar cr ve nb gu gd) (hC : ∀ c i, c ≤ 4 → ¬ C (c, i)) (hk : Keeps C w lab w' lab') : HOwn w' lab' base h D Aa ca Ao co Ar cr ve nb gu gd where
  base_le := H.base_le
  base_nb := H.base_nb
  labh := (hk.labs h (blk_lt' H.blk)).trans H.labh
  labnb := (hk.labs nb H.num.lt).trans H.labnb
  blk := (hk.block h (blk_lt' H.blk) (by rw [H.labh]; exact hC 4 0 (by omega))).trans H.blk
  capa := H.capa
  capo := H.capo
  capr := H.capr
  roa := H.roa.keeps hk
  roo := H.roo.keeps hk
  ror := H.ror.keeps hk
  arcs := H.roa.arcs (fun i => hC 0 i (by omega)) hk H.arcs
  order := H.roo.nats (fun i => hC 0 i (by omega)) hk H.order
  ranks := H.ror.nats (fun i => hC 0 i (by omega)) hk H.ranks
  edges := own_same H.edges (fun k hk' => hk.block k (H.edges.lt k hk').2 (by rw [H.labe k hk']; exact hC 3 0 (by omega)))
  labe := fun k hk' => (hk.labs k (H.edges.lt k hk').2).trans (H.labe k hk')
  num := H.num.same (hk.block nb H.num.lt (by rw [H.labnb]; exact hC 4 1 (by omega)))
  up := H.up.frame (fun k hk1 hk2 => hk.block k hk1 (by rw [show lab k = (1, (lab k).2) from by rw [← hk2]]; exact hC 1 _ (by omega))) hk.labs
  down := H.down.frame (fun k hk1 hk2 => hk.block k hk1 (by rw [show lab k = (2, (lab k).2) from by rw [← hk2]]; exact hC 2 _ (by omega))) hk.labs
theorem HOwn.cell (H : HOwn w lab base h D Aa ca Ao co Ar cr ve nb gu gd) (i : Nat) : w.cell? ⟨h, i, none⟩ = (hcells D Aa ca Ao co Ar cr ve nb gu gd)[i]? := blk_cell' H.blk i
end

/-- An edge more. -/
def HD.plus (D : HD) (u v : Nat) : HD :=
  { D with edges := D.edges ++ [(u, v)], num := fun x y => if x = u ∧ y = v then some D.edges.length else D.num x y, up := D.up.set u (D.up.getD u [] ++ [D.edges.length]), down := D.down.set v (D.down.getD v [] ++ [u]) }
theorem hdOf_plus {n : Nat} {arcs : List (Nat × Nat)} {order ranks : List Nat} {edges : List (Nat × Nat)} {u v : Nat} (hu : u < n) (hv : v < n) (h : (u, v) ∉ edges) : (hdOf n arcs order ranks edges).plus u v = hdOf n arcs order ranks (edges ++ [(u, v)]) := by
  have e1 : numOf (edges ++ [(u, v)]) = fun x y => if x = u ∧ y = v then some edges.length else numOf edges x y := by funext x y; exact numOf_add edges u v h x y
  unfold HD.plus hdOf
  rw [e1, up_add edges u v hu, down_add edges u v hv]

/-- The class of the blocks that add may change. -/
def CAdd (p : Nat × Nat) : Prop := 1 ≤ p.1 ∧ p.1 ≤ 4
/-- An edge has been appended. -/
def RetAdd (w : World) (lab : Lab) (base h : Nat) (D : HD) (Aa : Option Addr) (ca : Nat) (Ao : Option Addr) (co : Nat) (Ar : Option Addr) (cr : Nat) (nb gu gd : Nat) (u v : Nat) (en : Ending) (w' : World) : Prop :=
  ∃ lab' ve', en = .returned (.tuple #[]) ∧ HOwn w' lab' base h (D.plus u v) Aa ca Ao co Ar cr ve' nb gu gd ∧ Keeps CAdd w lab w' lab' ∧ Below base w w'

theorem app_keeps {W W' w2 : World} {lab : Lab} {c base g i : Nat} {rows : List (List Nat)} {v v' : Value} (T : TabAt W lab c base g rows) (hb : Below W.heap.size W W') (hi : i < rows.length) (hc : W.cell? ⟨g, i, none⟩ = some v) (hg : W'.grownBy w2 v.ownBlock)
    (hloc : v'.ownBlock = v.ownBlock ∨ ∃ k, v'.ownBlock = some k ∧ W'.heap.size ≤ k) : Keeps (fun p => p.1 = c) W lab (w2.setCell ⟨g, i, none⟩ v') (relab lab v' c i) := by
  obtain ⟨v0, hv0, _, hl0, _⟩ := T.at_ hi
  rw [hc] at hv0
  cases hv0
  have hs2 : W'.heap.size ≤ w2.heap.size := hg.size
  refine ⟨by simp [World.setCell]; exact Nat.le_trans hb.size hs2, fun k hk => relab_old hloc hl0 k (Nat.lt_of_lt_of_le hk hb.size), fun k hk hn => ?_⟩
  rw [Below.heap_setCell w2 _ v' k (by rintro rfl; exact hn (by rw [T.2.1]))]
  refine (hg.block k (Nat.lt_of_lt_of_le hk hb.size) (fun h => hn ?_)).trans (hb.block k hk)
  rw [hl0 k h.symm]

theorem HOwn.keeps1 {w w2 : World} {lab : Lab} {base h : Nat} {D : HD} {Aa : Option Addr} {ca : Nat} {Ao : Option Addr} {co : Nat} {Ar : Option Addr} {cr : Nat} {ve ve' : Value} {nb gu gd : Nat} (H : HOwn w lab base h D Aa ca Ao co Ar cr ve nb gu gd)
    (hg : w.grownBy w2 ve.ownBlock) (hloc : ve'.ownBlock = ve.ownBlock ∨ ∃ k, ve'.ownBlock = some k ∧ w.heap.size ≤ k) (i : Nat) : Keeps (fun p => p = (4, 0) ∨ p = (3, 0)) w lab (w2.setCell ⟨h, i, none⟩ ve') (relab lab ve' 3 0) := by
  refine ⟨by simpa [World.setCell] using hg.size, fun k hk => relab_old hloc H.labe k hk, fun k hk hn => ?_⟩
  rw [Below.heap_setCell w2 _ ve' k (by rintro rfl; exact hn (.inl H.labh))]
  exact hg.block k hk (fun h => hn (.inr (H.labe k h.symm)))
theorem HOwn.num1 {w w' : World} {lab lab' : Lab} {base h : Nat} {D : HD} {Aa : Option Addr} {ca : Nat} {Ao : Option Addr} {co : Nat} {Ar : Option Addr} {cr : Nat} {ve : Value} {nb gu gd : Nat} (H : HOwn w lab base h D Aa ca Ao co Ar cr ve nb gu gd)
    (hk : Keeps (fun p => p = (4, 0) ∨ p = (3, 0)) w lab w' lab') : PMap w' nb D.edges.length (fun u v => (D.num u v).map natv) := H.num.same (hk.block nb H.num.lt (by rw [H.labnb]; simp))
theorem map_keeps {w w' : World} {lab : Lab} {nb : Nat} (hl : lab nb = (4, 1)) (hg : w.grownBy w' (some nb)) : Keeps (fun p => p = (4, 1)) w lab w' lab :=
  ⟨hg.size, fun _ _ => rfl, fun k hk hn => hg.block k hk (fun h => by cases h; exact hn hl)⟩

theorem TabAt.keeps {C : Nat × Nat → Prop} {w w' : World} {lab lab' : Lab} {c base g : Nat} {rows : List (List Nat)} (h : TabAt w lab c base g rows) (hC : ∀ i, ¬ C (c, i)) (hk : Keeps C w lab w' lab') : TabAt w' lab' c base g rows :=
  h.frame (fun k hk1 hk2 => hk.block k hk1 (by rw [show lab k = (c, (lab k).2) from by rw [← hk2]]; exact hC _)) hk.labs
theorem own_keeps {C : Nat × Nat → Prop} {w w' : World} {lab lab' : Lab} {base n size : Nat} {e : TypeId} {v : Value} {xs : List Value} {p : Nat × Nat} (h : w.ownsRow base e size v n xs) (hl : ∀ k, v.ownBlock = some k → lab k = p) (hp : ¬ C p) (hk : Keeps C w lab w' lab') :
    w'.ownsRow base e size v n xs ∧ ∀ k, v.ownBlock = some k → lab' k = p :=
  ⟨own_same h (fun k hk' => hk.block k (h.lt k hk').2 (by rw [hl k hk']; exact hp)), fun k hk' => (hk.labs k (h.lt k hk').2).trans (hl k hk')⟩
theorem CAdd0 (i : Nat) : ¬ CAdd (0, i) := fun h => by have := h.1; simp at this

set_option maxRecDepth 100000 in
set_option maxHeartbeats 8000000 in
theorem add_any {w : World} {lab : Lab} {base h : Nat} {D : HD} {Aa : Option Addr} {ca : Nat} {Ao : Option Addr} {co : Nat} {Ar : Option Addr} {cr : Nat} {ve : Value} {nb gu gd : Nat} (H : HOwn w lab base h D Aa ca Ao co Ar cr ve nb gu gd) (u v : Nat) (hu : u < D.n) (hv : v < D.n)
    (hup : D.up.length = D.n) (hdn : D.down.length = D.n) (hn : D.n ≤ 1048576) (he : D.edges.length ≤ 1099511627775) (hul : (D.up.getD u []).length ≤ D.edges.length) (hdl : (D.down.getD v []).length ≤ D.edges.length) :
    Calls Try.prog 94 #[.pointer (some ⟨h, 0, none⟩), .int .i64 (u : Int), .int .i64 (v : Int)] w (RetAdd w lab base h D Aa ca Ao co Ar cr nb gu gd u v) := by
  obtain ⟨Ae, ce, rfl, hce, _, _⟩ := own_row H.edges
  have HH := hid H
  have c4 : w.cell? ⟨h, 4, none⟩ = some (.slice Ae D.edges.length ce) := H.cell 4
  have hl := blk_lt' H.blk
  have hbase : base ≤ w.heap.size := Nat.le_trans H.base_le (Nat.le_of_lt hl)
  have hul' := hid hul
  have hdl' := hid hdl
  have hup' := hid hup
  have hdn' := hid hdn
  clear H hul hdl hup hdn
  go_enter Try.func94, Try.ntmps94
  go_wp2_with (first
    | (at_builtin; refine wp_app1 rfl _ _ 22 48 _ 2 16 rfl Try.underlying22 info_arc rfl (by decide) base D.edges.length _ (D.edges.flatMap arcv) [.int .i64 (u : Int), .int .i64 (v : Int)] rfl rfl (by exact HH.out.edges) rfl (by simp [Value.oneCell']) (by omega) (by omega) (by omega) ?_; intro ve' w2 hown2 hgrow2 hloc2; obtain ⟨Ae2, ce2, hve2, hce2, _, _⟩ := own_row hown2; subst hve2; have hb2 := blk_grown (by exact HH.out.blk) hgrow2 (own_ne HH.out.edges HH.out.blk (by decide)); have k4 : w2.cell? ⟨h, 4, none⟩ = some (.slice Ae D.edges.length ce) := blk_cell' hb2 4; have f4 := blk_free hb2 4; have k5 : w2.cell? ⟨h, 5, none⟩ = some (.map (some nb)) := blk_cell' hb2 5; have l2 := blk_lt' hb2
       have K1 := hid (HH.out.keeps1 hgrow2 hloc2 4)
       have Hown2 := hid hown2
       have Hgrow2 := hid hgrow2
       have Hb2 := hid hb2
       clear hown2 hgrow2 hloc2 hb2)
    | (refine wp_storeP _ rfl _ _ _ 113 rfl 3 Try.underlying113 nb D.edges.length (fun u v => (D.num u v).map natv) rfl (HH.out.num1 K1.out) (by omega) u v (by omega) (by omega) rfl (.int .i64 (D.edges.length : Int)) rfl ?_; intro w3 hm3 hg3
       have Hm3 := hid hm3
       have Hg3 := hid hg3
       clear hm3 hg3 k4 f4 k5 l2 c4 hl))
  have hb1 := blk_set' Hb2.out 4 (.slice Ae2 (D.edges.length + 1) ce2)
  have hnbh : some h ≠ some nb := fun e => by
    cases e
    have h1 := HH.out.labh
    rw [HH.out.labnb] at h1
    cases h1
  have hb3 := blk_grown hb1 Hg3.out hnbh
  have hlab1 : relab lab (.slice Ae2 (D.edges.length + 1) ce2) 3 0 nb = (4, 1) := (K1.out.labs nb HH.out.num.lt).trans HH.out.labnb
  have K2 := hid (map_keeps hlab1 Hg3.out)
  have Hb3 := hid hb3
  have U3 := (HH.out.up.keeps (by simp) K1.out).keeps (by simp) K2.out
  have K12 := hid ((K1.out.mono (C' := CAdd) (fun p hp => by rcases hp with rfl | rfl <;> simp [CAdd])).trans (K2.out.mono (fun p hp => by subst hp; simp [CAdd])))
  have B1 : Below base w (w2.setCell ⟨h, 4, none⟩ (.slice Ae2 (D.edges.length + 1) ce2)) := ((Below.refl base w).grown Hgrow2.out hbase (fun j hj => (HH.out.edges.lt j hj).1)).setCell HH.out.base_le _
  have B3 := hid (B1.grown Hg3.out (Nat.le_trans hbase B1.size) (fun j hj => by cases hj; exact HH.out.base_nb))
  have hnx := HH.out.labnb
  have le1 : ∀ k, (Value.slice Ae2 (D.edges.length + 1) ce2).ownBlock = some k → relab lab (.slice Ae2 (D.edges.length + 1) ce2) 3 0 k = (3, 0) := fun k hk => relab_self _ _ _ _ _ hk
  have E1 := own_same Hown2.out (w' := w2.setCell ⟨h, 4, none⟩ (.slice Ae2 (D.edges.length + 1) ce2)) (fun k hk => Below.heap_setCell w2 _ _ k (by rintro rfl; exact own_ne Hown2.out Hb2.out (by decide) hk.symm))
  obtain ⟨lab1, hlab⟩ : ∃ l, l = relab lab (.slice Ae2 (D.edges.length + 1) ce2) 3 0 := ⟨_, rfl⟩
  rw [← hlab] at U3 K1 K2 K12 hlab1 le1
  have E3 := hid (own_keeps E1 le1 (by simp) K2.out)
  clear le1 E1
  clear hb1 hnbh hb3 hlab1 B1 hnx hlab Hb2
  -- the edges that lead up
  obtain ⟨ru, hru⟩ : ∃ R, R = D.up.getD u [] := ⟨_, rfl⟩
  obtain ⟨v0, cv, own0, lab0, ne0⟩ := U3.at_ (i := u) (by rw [hup'.out]; exact hu)
  rw [← hru] at own0
  have fz := U3.free u
  have c6 : w3.cell? ⟨h, 6, none⟩ = some (.slice (some ⟨gu, 0, none⟩) D.n D.n) := blk_cell' Hb3.out 6
  have hl3 := blk_lt' Hb3.out
  have gl := U3.lt
  have Own0 := hid own0
  have HU3 := hid U3
  have Hru := hid hru
  have Hne0 := hid ne0
  have nx : Hid (some h ≠ v0.ownBlock) := own_ne own0 Hb3.out (by decide)
  have ngh : gu ≠ h := fun e => by
    have h1 := U3.2.1
    have h2 := (K12.out.labs h (blk_lt' HH.out.blk)).trans HH.out.labh
    rw [e, h2] at h1
    cases h1
  have nl : Hid (ru.length ≤ D.edges.length) := by rw [hru]; exact hul'.out
  have HBs : Hid (base ≤ w3.heap.size) := Nat.le_trans hbase B3.out.size
  have hS1 : Hid (∀ W', Below w3.heap.size w3 W' → W'.cell? ⟨h, 6, none⟩ = some (.slice (some ⟨gu, 0, none⟩) D.n D.n) ∧ W'.cell? ⟨gu, u, none⟩ = some v0) := fun W' h => ⟨cell_later h c6, cell_later h cv⟩
  clear own0 U3 hru lab0 ne0
  refine wp_region_plan (fun w' => w'.cell? ⟨h, 6, none⟩ = some (.slice (some ⟨gu, 0, none⟩) D.n D.n) ∧ w'.cell? ⟨gu, u, none⟩ = some v0) 16 [0, 1, 2, 3, 4, 5, 6, 7, 8, 9, 10, 11, 12] [13, 14, 15] (by kernel_rfl) (by kernel_rfl) ⟨c6, cv⟩ ?_
  iterate 13
    refine readsS_take (v := ?_) rfl (by rfl) ?_ ?_
    rotate_left
    · (intro W hSW; (try dsimp only at hSW); go_split_ands; go_simp; try with_reducible rfl)
    simp only [Act.put, List.setIfInBounds_toArray, List.set_cons_zero, List.set_cons_succ]
  refine readsS_nil ?_
  refine chainS_step rfl (fun K hK => ?_)
  go_simp
  refine hK.out _ _ (hS1.out _ (by exact (below_alloc' (Below.refl _ _) _).drew)) ?_
  clear hK K
  try simp only [Act.put, List.setIfInBounds_toArray, List.set_cons_zero, List.set_cons_succ]
  refine chainS_step rfl (fun K hK => ?_)
  refine step_app1 (by rfl) _ _ 25 3 _ 1 8 (by rfl) Try.underlying25 info_int (by rfl) (by decide) base ru.length w3.heap.size v0 (ru.map natv) [.int .i64 (D.edges.length : Int)] (by rfl) (by rfl) (by exact new_blk w3 _ _) (by exact (Own0.out.alloc _)) (by rfl) (by simp [Value.oneCell']) (by have := nl.out; omega) (by have := nl.out; omega) (by have := HBs.out; simp; omega) ?_
  intro v4 w4' hown4 hgrow4 hloc4
  obtain ⟨kc4, kf4⟩ := tab_kept HU3.out (by exact (below_alloc' (Below.refl _ _) _).drew) hgrow4 Hne0.out cv
  obtain ⟨A4, c4, hv4, _, _, _⟩ := own_row hown4
  subst hv4
  have hbx2 := blk_grown (by exact blk_below Hb3.out (below_alloc' (Below.refl _ _) _).drew) hgrow4 nx.out
  have k6 : w4'.cell? ⟨h, 6, none⟩ = some (.slice (some ⟨gu, 0, none⟩) D.n D.n) := blk_cell' hbx2 6
  refine hK.out _ _ ⟨k6, kc4⟩ ?_
  clear hK K
  try simp only [Act.put, List.setIfInBounds_toArray, List.set_cons_zero, List.set_cons_succ]
  refine chainS_step rfl (fun K hK => ?_)
  go_simp
  refine hK.out _ _ ⟨k6, kc4⟩ ?_
  clear hK K
  try simp only [Act.put, List.setIfInBounds_toArray, List.set_cons_zero, List.set_cons_succ]
  refine chainS_last rfl (fun K hK => ?_)
  go_simp
  refine hK.out _ _ (NoPanic.normal ?_)
  clear hK K
  have T4 := HU3.out.app (by exact (below_alloc' (Below.refl _ _) _).drew) (by rw [hup'.out]; exact hu) cv hgrow4 (x := D.edges.length) (v' := .slice A4 (ru.length + 1) c4) (by rw [← Hru.out]; exact hown4) hloc4
  rw [← Hru.out] at T4
  have K3 := hid (app_keeps HU3.out (by exact (below_alloc' (Below.refl _ _) _).drew) (by rw [hup'.out]; exact hu) cv hgrow4 (v' := .slice A4 (ru.length + 1) c4) hloc4)
  have hbx4 := blk_far' hbx2 (p := ⟨gu, u, none⟩) (Ne.symm ngh) (.slice A4 (ru.length + 1) c4)
  have hnx4 := hid ((((show Below base w _ from (B3.out.alloc (Nat.le_trans hbase B3.out.size) _).drew).grown hgrow4 (by have := HBs.out; simp; omega) (fun j hj => (Own0.out.lt j hj).1))).setCell (p := ⟨gu, u, none⟩) HU3.out.base_le (.slice A4 (ru.length + 1) c4))
  obtain ⟨W4, hW4⟩ : ∃ W, W = w4'.setCell ⟨gu, u, none⟩ (.slice A4 (ru.length + 1) c4) := ⟨_, rfl⟩
  rw [← hW4] at T4 K3 hbx4 hnx4 ⊢
  obtain ⟨lab2, hlab⟩ : ∃ l, l = relab lab1 (.slice A4 (ru.length + 1) c4) 1 u := ⟨_, rfl⟩
  rw [← hlab] at T4 K3
  clear hlab hW4 hown4 hgrow4 hloc4 kc4 kf4 k6 hbx2 hS1 cv fz c6 hl3 gl nl HBs nx Hne0 Own0
  have HT4 := hid T4
  have Hb4 := hid hbx4
  clear T4 hbx4
  have K13 := hid (K12.out.trans (K3.out.mono (fun p hp => by simp [CAdd, hp])))
  -- the lower neighbours
  have D4 := (((HH.out.down.keeps (by simp) K1.out).keeps (by simp) K2.out).keeps (by simp) K3.out)
  obtain ⟨rd, hrd⟩ : ∃ R, R = D.down.getD v [] := ⟨_, rfl⟩
  obtain ⟨v1, cv, own1, lab1', ne1⟩ := D4.at_ (i := v) (by rw [hdn'.out]; exact hv)
  rw [← hrd] at own1
  have fz := D4.free v
  have c7 : W4.cell? ⟨h, 7, none⟩ = some (.slice (some ⟨gd, 0, none⟩) D.n D.n) := blk_cell' Hb4.out 7
  have hl4 := blk_lt' Hb4.out
  have gl := D4.lt
  have Own1 := hid own1
  have HD4 := hid D4
  have Hrd := hid hrd
  have Hne1 := hid ne1
  have nx : Hid (some h ≠ v1.ownBlock) := own_ne own1 Hb4.out (by decide)
  have ngd : gd ≠ h := fun e => by
    have h1 := D4.2.1
    have h2 := (K13.out.labs h (blk_lt' HH.out.blk)).trans HH.out.labh
    rw [e, h2] at h1
    cases h1
  have nl : Hid (rd.length ≤ D.edges.length) := by rw [hrd]; exact hdl'.out
  have HBs : Hid (base ≤ W4.heap.size) := Nat.le_trans hbase hnx4.out.size
  have hS1 : Hid (∀ W', Below W4.heap.size W4 W' → W'.cell? ⟨h, 7, none⟩ = some (.slice (some ⟨gd, 0, none⟩) D.n D.n) ∧ W'.cell? ⟨gd, v, none⟩ = some v1) := fun W' h => ⟨cell_later h c7, cell_later h cv⟩
  clear own1 D4 hrd lab1' ne1
  go_wp2
  refine wp_region_plan (fun w' => w'.cell? ⟨h, 7, none⟩ = some (.slice (some ⟨gd, 0, none⟩) D.n D.n) ∧ w'.cell? ⟨gd, v, none⟩ = some v1) 16 [0, 1, 2, 3, 4, 5, 6, 7, 8, 9, 10, 11, 12] [13, 14, 15] (by kernel_rfl) (by kernel_rfl) ⟨c7, cv⟩ ?_
  iterate 13
    refine readsS_take (v := ?_) rfl (by rfl) ?_ ?_
    rotate_left
    · (intro W hSW; (try dsimp only at hSW); go_split_ands; go_simp; try with_reducible rfl)
    simp only [Act.put, List.setIfInBounds_toArray, List.set_cons_zero, List.set_cons_succ]
  refine readsS_nil ?_
  refine chainS_step rfl (fun K hK => ?_)
  go_simp
  refine hK.out _ _ (hS1.out _ (by exact (below_alloc' (Below.refl _ _) _).drew)) ?_
  clear hK K
  try simp only [Act.put, List.setIfInBounds_toArray, List.set_cons_zero, List.set_cons_succ]
  refine chainS_step rfl (fun K hK => ?_)
  refine step_app1 (by rfl) _ _ 25 3 _ 1 8 (by rfl) Try.underlying25 info_int (by rfl) (by decide) base rd.length W4.heap.size v1 (rd.map natv) [.int .i64 (u : Int)] (by rfl) (by rfl) (by exact new_blk W4 _ _) (by exact (Own1.out.alloc _)) (by rfl) (by simp [Value.oneCell']) (by have := nl.out; omega) (by have := nl.out; omega) (by have := HBs.out; simp; omega) ?_
  intro v5 w5' hown5 hgrow5 hloc5
  obtain ⟨kc5, kf5⟩ := tab_kept HD4.out (by exact (below_alloc' (Below.refl _ _) _).drew) hgrow5 Hne1.out cv
  obtain ⟨A5, c5, hv5, _, _, _⟩ := own_row hown5
  subst hv5
  have hbx2 := blk_grown (by exact blk_below Hb4.out (below_alloc' (Below.refl _ _) _).drew) hgrow5 nx.out
  have k7 : w5'.cell? ⟨h, 7, none⟩ = some (.slice (some ⟨gd, 0, none⟩) D.n D.n) := blk_cell' hbx2 7
  refine hK.out _ _ ⟨k7, kc5⟩ ?_
  clear hK K
  try simp only [Act.put, List.setIfInBounds_toArray, List.set_cons_zero, List.set_cons_succ]
  refine chainS_step rfl (fun K hK => ?_)
  go_simp
  refine hK.out _ _ ⟨k7, kc5⟩ ?_
  clear hK K
  try simp only [Act.put, List.setIfInBounds_toArray, List.set_cons_zero, List.set_cons_succ]
  refine chainS_last rfl (fun K hK => ?_)
  go_simp
  refine hK.out _ _ (NoPanic.normal ?_)
  clear hK K
  have T5 := HD4.out.app (by exact (below_alloc' (Below.refl _ _) _).drew) (by rw [hdn'.out]; exact hv) cv hgrow5 (x := u) (v' := .slice A5 (rd.length + 1) c5) (by rw [← Hrd.out]; exact hown5) hloc5
  rw [← Hrd.out] at T5
  have K4 := hid (app_keeps HD4.out (by exact (below_alloc' (Below.refl _ _) _).drew) (by rw [hdn'.out]; exact hv) cv hgrow5 (v' := .slice A5 (rd.length + 1) c5) hloc5)
  have hbx5 := blk_far' hbx2 (p := ⟨gd, v, none⟩) (Ne.symm ngd) (.slice A5 (rd.length + 1) c5)
  have hnx5 := hid ((((show Below base w _ from (hnx4.out.alloc (Nat.le_trans hbase hnx4.out.size) _).drew).grown hgrow5 (by have := HBs.out; simp; omega) (fun j hj => (Own1.out.lt j hj).1))).setCell (p := ⟨gd, v, none⟩) HD4.out.base_le (.slice A5 (rd.length + 1) c5))
  obtain ⟨W5, hW5⟩ : ∃ W, W = w5'.setCell ⟨gd, v, none⟩ (.slice A5 (rd.length + 1) c5) := ⟨_, rfl⟩
  rw [← hW5] at T5 K4 hbx5 hnx5 ⊢
  obtain ⟨lab3, hlab⟩ : ∃ l, l = relab lab2 (.slice A5 (rd.length + 1) c5) 2 v := ⟨_, rfl⟩
  rw [← hlab] at T5 K4
  have HT5 := hid T5
  have Hb5 := hid hbx5
  clear hlab hW5 hown5 hgrow5 hloc5 kc5 kf5 k7 hbx2 hS1 cv fz c7 hl4 gl nl HBs nx Hne1 Own1 T5 hbx5
  go_wp2
  have K14 := K13.out.trans (K4.out.mono (C' := CAdd) (fun p hp => by simp [CAdd, hp]))
  obtain ⟨E5, le5⟩ := own_keeps E3.out.1 E3.out.2 (by simp) K3.out
  obtain ⟨E6, le6⟩ := own_keeps E5 le5 (by simp) K4.out
  refine bodyPost_ret (v := .tuple #[]) (by simp [results, Try.results94, go_sem]) rfl ⟨lab3, .slice Ae2 (D.edges.length + 1) ce2, rfl, ?_, K14, hnx5.out⟩
  have hl0 := blk_lt' HH.out.blk
  exact {
    base_le := HH.out.base_le
    base_nb := HH.out.base_nb
    labh := (K14.labs h hl0).trans HH.out.labh
    labnb := (K14.labs nb HH.out.num.lt).trans HH.out.labnb
    blk := Hb5.out
    capa := HH.out.capa
    capo := HH.out.capo
    capr := HH.out.capr
    roa := HH.out.roa.keeps K14
    roo := HH.out.roo.keeps K14
    ror := HH.out.ror.keeps K14
    arcs := HH.out.roa.arcs CAdd0 K14 HH.out.arcs
    order := HH.out.roo.nats CAdd0 K14 HH.out.order
    ranks := HH.out.ror.nats CAdd0 K14 HH.out.ranks
    edges := by simpa [HD.plus, arcv] using E6
    labe := le6
    num := by
      have h1 := Hm3.out
      have hnb3 : lab1 nb = (4, 1) := (K1.out.labs nb HH.out.num.lt).trans HH.out.labnb
      have hnb3' := (K2.out.labs nb (Nat.lt_of_lt_of_le HH.out.num.lt K1.out.size)).trans hnb3
      have h2 := h1.same (K3.out.block nb h1.lt (by rw [hnb3']; simp))
      have h3 := h2.same (K4.out.block nb h2.lt (by rw [K3.out.labs nb h1.lt, hnb3']; simp))
      have e : (fun x y => ((D.plus u v).num x y).map natv) = pput (fun u v => (D.num u v).map natv) u v (.int .i64 (D.edges.length : Int)) := by
        funext x y
        simp only [HD.plus, pput]
        by_cases h : x = u ∧ y = v
        · rw [if_pos h, if_pos h]; rfl
        · rw [if_neg h, if_neg h]
      have hle : (D.plus u v).edges.length = D.edges.length + 1 := by simp [HD.plus]
      rw [e, hle]
      exact h3
    up := by
      have := HT4.out.keeps (by simp) K4.out
      rw [Hru.out] at this
      exact this
    down := by
      have := HT5.out
      rw [Hrd.out] at this
      exact this }

end Go.Proofs.Ytpfjannhggcmiaa
