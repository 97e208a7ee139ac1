/- Contracts of query.Upward and of the closure that relaxes an edge in a sweep. -/
import Derived.Test.YtpfjannhggcmiaaCl2
namespace Go.Proofs.Ytpfjannhggcmiaa
open Go.RowKit Go.Maps

theorem does_callF {ρ : Operand → Value} {o : Oper} {w : World} {R : Value → World → Prop} {g : FuncId} {x : Operand} {xs : Array Operand} {fs cs vs : Array Value} {ts : Array TypeId} (ho : o.op = .call { callee := .value x, args := xs, argTypes := ts })
    (hf : ρ x = .func (.func g) fs cs) (hv : fs ++ xs.map ρ ++ cs = vs) (he : ∀ args w, (callFunc g args).run Try.prog w = .ok (.enter g args) w) (h : Calls Try.prog g vs w fun e w'' => ∃ u, e = .returned u ∧ R u w'') : OpDoes Try.prog ρ o w R := by
  have e2 : fs ++ (xs.map ρ ++ cs) = vs := by rw [← Array.append_assoc]; exact hv
  have he' := he vs w
  unfold OpDoes execOp
  simp [ho, resolve, Deferred.ofValue, hf, invoke, e2, he', h]
theorem mix_callF {ops : Array Oper} {Q : Exit → Act → World → Prop} {S : World → Prop} {i n : Nat} {rest : List (Nat × Bool)} {a : Act} {w : World} {x : Operand} {xs : Array Operand} {ts : Array TypeId} {d : Option Tmp} {g : FuncId} {fs cs vs : Array Value}
    (ho : (ops[i]?).map (fun o => (o.op, o.dst, o.guard)) = some (.call { callee := .value x, args := xs, argTypes := ts }, d, none))
    (hf : a.eval x = .func (.func g) fs cs) (hv : fs ++ xs.map a.eval ++ cs = vs) (he : ∀ args w, (callFunc g args).run Try.prog w = .ok (.enter g args) w)
    (h : Calls Try.prog g vs w fun e w'' => ∃ u, e = .returned u ∧ S w'' ∧ mixS Try.prog ops Q S n rest (a.put d u) w'') : mixS Try.prog ops Q S n ((i, false) :: rest) a w := by
  cases hi : ops[i]? with
  | none => rw [hi] at ho; cases ho
  | some o =>
    rw [hi] at ho
    simp only [Option.map_some, Option.some.injEq, Prod.mk.injEq] at ho
    obtain ⟨h1, h2, h3⟩ := ho
    refine mix_call hi h3 ?_
    rw [h2]
    exact does_callF h1 hf hv he h
theorem nats_one (w : World) (s : Nat) (t : TypeId) : Nats (w.alloc (.cells #[.int .i64 (s : Int)] t)) (some ⟨w.heap.size, 0, none⟩) [s] :=
  .inr ⟨w.heap.size, 0, rfl, by simp, fun i hi => by
    obtain rfl : i = 0 := by simpa using hi
    exact blk_cell' (new_blk w _ _) 0⟩
/-- What Upward returns: the vertices that an upward search has reached. -/
def RetUp (w : World) (n : Nat) (E : List (Nat × Nat)) (ws : List Int) (ranks : List Nat) (edges : List (Nat × Nat)) (U : Nat → Nat → Int) (s : Nat) (en : Ending) (w' : World) : Prop :=
  ∃ A c l cost via, en = .returned (.slice A l.length c) ∧ l.length ≤ c ∧ Fresh w.heap.size A ∧ Pairs w' A l ∧ ClimbEnd n E ws ranks edges U s l cost via ∧ Below w.heap.size w w'
set_option maxRecDepth 100000 in
set_option maxHeartbeats 1000000 in
theorem upward_up {n : Nat} {E : List (Nat × Nat)} {ws : List Int} {order ranks : List Nat} {edges : List (Nat × Nat)} {w : World} {m h : Nat} {M : MD} (H : MetAt w m h M) (G : Good n E ws order ranks edges M) (s : Nat) (hs : s < n) (hn : n ≤ 29) :
    Calls Try.prog 78 #[.pointer (some ⟨m, 0, none⟩), .int .i64 (s : Int), .bool false] w (RetUp w n (E) ws ranks edges (wUp edges M) s) := by
  have HM := hid H
  have HG := hid G
  have hDn : Hid (M.h.n = n) := by rw [G.h_eq]; exact rfl
  have hfl := fun (A : Option Addr) (k c b1 b2 : Nat) (W : World) => (show (Instr.field 131 (.agg #[.slice A k c, .map (some b1), .map (some b2)]) 0).run Try.prog W = .ok (.slice A k c) W by kernel_rfl)
  clear H G
  go_enter Try.func78, Try.ntmps78
  go_wp2_with fail
  refine (check_good (HM.out.below (below_alloc' (Below.refl _ _) _)) (some ⟨w.heap.size, 0, none⟩) [s] 1 (by exact nats_one w s _) (fun i hi => ?_) (by simp)).mono ?_
  · obtain rfl : i = 0 := by simpa using hi
    rw [hDn.out]; exact hs
  rintro en w1 ⟨rfl, hw1⟩
  subst hw1
  go_wp2_with fail
  refine (climb_up (HM.out.below (below_alloc' (Below.refl _ _) _)) HG.out s hs hn).mono ?_
  rintro en w2 ⟨A, c, l, bc, bv, nc, nv, cost, via, rfl, hc, hf, hP, hm1, hm2, hend, hb⟩
  have Hf := hid (hf.mono (show w.heap.size ≤ _ by simp))
  have HP := hid hP
  have Hend := hid hend
  have HB := hid (below_then' (below_alloc' (Below.refl w.heap.size w) _) hb)
  clear hP hm1 hm2 hend hb hf
  go_wp2
  go_ret
  exact ⟨A, c, l, cost, via, rfl, hc, Hf.out, HP.out, Hend.out, HB.out⟩
set_option maxRecDepth 100000 in
set_option maxHeartbeats 1000000 in
theorem upward_down {n : Nat} {E : List (Nat × Nat)} {ws : List Int} {order ranks : List Nat} {edges : List (Nat × Nat)} {w : World} {m h : Nat} {M : MD} (H : MetAt w m h M) (G : Good n E ws order ranks edges M) (s : Nat) (hs : s < n) (hn : n ≤ 29) :
    Calls Try.prog 78 #[.pointer (some ⟨m, 0, none⟩), .int .i64 (s : Int), .bool true] w (RetUp w n (swapE E) ws ranks edges (wDown edges M) s) := by
  have HM := hid H
  have HG := hid G
  have hDn : Hid (M.h.n = n) := by rw [G.h_eq]; exact rfl
  have hfl := fun (A : Option Addr) (k c b1 b2 : Nat) (W : World) => (show (Instr.field 131 (.agg #[.slice A k c, .map (some b1), .map (some b2)]) 0).run Try.prog W = .ok (.slice A k c) W by kernel_rfl)
  clear H G
  go_enter Try.func78, Try.ntmps78
  go_wp2_with fail
  refine (check_good (HM.out.below (below_alloc' (Below.refl _ _) _)) (some ⟨w.heap.size, 0, none⟩) [s] 1 (by exact nats_one w s _) (fun i hi => ?_) (by simp)).mono ?_
  · obtain rfl : i = 0 := by simpa using hi
    rw [hDn.out]; exact hs
  rintro en w1 ⟨rfl, hw1⟩
  subst hw1
  go_wp2_with fail
  refine (climb_down (HM.out.below (below_alloc' (Below.refl _ _) _)) HG.out s hs hn).mono ?_
  rintro en w2 ⟨A, c, l, bc, bv, nc, nv, cost, via, rfl, hc, hf, hP, hm1, hm2, hend, hb⟩
  have Hf := hid (hf.mono (show w.heap.size ≤ _ by simp))
  have HP := hid hP
  have Hend := hid hend
  have HB := hid (below_then' (below_alloc' (Below.refl w.heap.size w) _) hb)
  clear hP hm1 hm2 hend hb hf
  go_wp2
  go_ret
  exact ⟨A, c, l, cost, via, rfl, hc, Hf.out, HP.out, Hend.out, HB.out⟩

/-! ### relaxing an edge in a sweep -/
def relaxD (d : List Int) (v x : Nat) (wt : Int) : List Int := if wt < INF ∧ d.getD x 0 < INF then d.set v (Min.min (d.getD v 0) (d.getD x 0 + wt)) else d
theorem relaxD_len (d : List Int) (v x : Nat) (wt : Int) : (relaxD d v x wt).length = d.length := by unfold relaxD; split <;> simp
theorem grown_drewN (w : World) (n : Nat) (r : Option Nat) : w.grownBy (w.drewN n) r := ⟨rfl, rfl, rfl, Nat.le_refl _, fun _ _ _ => rfl⟩
theorem grown_set (w : World) (p : Addr) (v : Value) : w.grownBy (w.setCell p v) (some p.block) := ⟨rfl, rfl, rfl, by simp, fun k _ hne => Below.heap_setCell w p v k (fun h => hne (by rw [h]))⟩
def RetRelax (w : World) (go : Nat) (d : List Int) (en : Ending) (w' : World) : Prop :=
  en = .returned (.tuple #[]) ∧ w.grownBy w' (some go) ∧ w'.heap[go]? = some (.cells (d.map intv).toArray 3 (0, 0))
set_option maxRecDepth 100000 in
set_option maxHeartbeats 4000000 in
theorem relax_down {w : World} {m h : Nat} {M : MD} (H : MetAt w m h M) (hrng : ∀ i, 0 ≤ M.down.getD i 0 ∧ M.down.getD i 0 ≤ INF) (v e x : Nat) (he : e < M.h.edges.length) (hx : (M.h.edges.getD e (0, 0)).2 = x) (d : List Int) (hd : d.length = M.h.n) (hv : v < M.h.n) (hxn : x < M.h.n)
    (hrd : ∀ i, i < M.h.n → 0 ≤ d.getD i 0 ∧ d.getD i 0 ≤ INF) (b15 b11 b16 go : Nat) (A16 : Option Addr) (c16 : Nat) (c : Nat) (h15 : w.heap[b15]? = some (.cells #[.func (.func 79) #[.pointer (some ⟨m, 0, none⟩)] #[]] 124 (0, 0)))
    (h11 : w.heap[b11]? = some (.cells #[.slice (some ⟨go, 0, none⟩) M.h.n c] 25 (0, 0))) (h16 : w.heap[b16]? = some (.cells #[.slice A16 M.h.edges.length c16] 22 (0, 0))) (hgo : w.heap[go]? = some (.cells (d.map intv).toArray 3 (0, 0))) (hA : Arcs w A16 M.h.edges) :
    Calls Try.prog 81 #[.int .i64 (v : Int), .int .i64 (e : Int), .pointer (some ⟨b15, 0, none⟩), .pointer (some ⟨b11, 0, none⟩), .pointer (some ⟨b16, 0, none⟩)] w (RetRelax w go (relaxD d v x (M.down.getD e 0))) := by
  have hel := H.ok.h_ok.edges_len
  have hnl := H.ok.h_ok.n_le
  have hwr := hrng e
  obtain ⟨wt, hwt⟩ : ∃ wt, M.down.getD e 0 = wt := ⟨_, rfl⟩
  rw [hwt] at hwr ⊢
  have hdx := hrd x hxn
  have hdv := hrd v hv
  obtain ⟨dx, hdx'⟩ : ∃ y, d.getD x 0 = y := ⟨_, rfl⟩
  obtain ⟨dv, hdv'⟩ : ∃ y, d.getD v 0 = y := ⟨_, rfl⟩
  rw [hdx'] at hdx
  rw [hdv'] at hdv
  obtain ⟨bA, oA, rfl, hbA, _, cu⟩ := hA.at_ he
  rw [hx] at cu
  have k15 : w.cell? ⟨b15, 0, none⟩ = some (.func (.func 79) #[.pointer (some ⟨m, 0, none⟩)] #[]) := blk_cell' h15 0
  have k11 : w.cell? ⟨b11, 0, none⟩ = some (.slice (some ⟨go, 0, none⟩) M.h.n c) := blk_cell' h11 0
  have k16 : w.cell? ⟨b16, 0, none⟩ = some (.slice (some ⟨bA, oA, none⟩) M.h.edges.length c16) := blk_cell' h16 0
  have kx : w.cell? ⟨go, x, none⟩ = some (.int .i64 dx) := by rw [blk_cell' hgo, ← hdx']; simp [intv, List.getD, hd, hxn]
  have kv : w.cell? ⟨go, v, none⟩ = some (.int .i64 dv) := by rw [blk_cell' hgo, ← hdv']; simp [intv, List.getD, hd, hv]
  have fv := blk_free hgo v
  have l15 := blk_lt' h15
  have l11 := blk_lt' h11
  have l16 := blk_lt' h16
  have lgo := blk_lt' hgo
  have Hgo := hid hgo
  have EGW := hid (fun args w => enter_of (Try.func79) (by kernel_rfl) rfl args w)
  have hC := mdown_any e (H.below (Below.refl _ _).drew) he
  rw [hwt] at hC
  have HC := hid hC
  have Hrel : Hid (relaxD d v x wt = if wt < INF ∧ dx < INF then d.set v (Min.min dv (dx + wt)) else d) := by unfold relaxD; rw [hdx', hdv']; exact rfl
  unfold INF at hwr hdx hdv
  clear H hrng hrd hx h15 h11 h16 hgo hA hwt hdx' hdv' hC hd
  go_enter Try.func81, Try.ntmps81
  go_wp2
  refine wp_region_mix (fun w' => w'.cell? ⟨b15, 0, none⟩ = some (.func (.func 79) #[.pointer (some ⟨m, 0, none⟩)] #[]) ∧ w'.cell? ⟨b11, 0, none⟩ = some (.slice (some ⟨go, 0, none⟩) M.h.n c) ∧ w'.cell? ⟨b16, 0, none⟩ = some (.slice (some ⟨bA, oA, none⟩) M.h.edges.length c16) ∧ w'.cell? ⟨bA, oA + e * 2 + 1, none⟩ = some (.int .i64 (x : Int)) ∧ w'.cell? ⟨go, x, none⟩ = some (.int .i64 dx)) 12 [(0, true), (1, true), (3, true), (4, true), (5, true), (6, true), (7, true), (8, true), (9, true), (10, true), (2, false), (11, true)] (by kernel_rfl) (by kernel_rfl) ⟨k15, k11, k16, cu, kx⟩ ?_
  iterate 10
    refine mix_take (v := ?_) rfl (by rfl) ?_ ?_
    rotate_left
    · (intro W hSW; (try dsimp only at hSW); go_split_ands; go_simp; try with_reducible rfl)
    simp only [Act.put, List.setIfInBounds_toArray, List.set_cons_zero, List.set_cons_succ]
  refine mix_callF (x := .tmp 9) (xs := #[.tmp 10]) (ts := #[3]) (d := some 11) (g := 79) (fs := #[.pointer (some ⟨m, 0, none⟩)]) (cs := #[]) (vs := #[.pointer (some ⟨m, 0, none⟩), .int .i64 (e : Int)]) (by kernel_rfl) (by kernel_rfl) (by kernel_rfl) EGW.out ?_
  refine (HC.out).mono ?_
  rintro en w2 ⟨rfl, rfl⟩
  refine ⟨_, rfl, ⟨k15, k11, k16, cu, kx⟩, ?_⟩
  simp only [Act.put, List.setIfInBounds_toArray, List.set_cons_zero, List.set_cons_succ]
  iterate 1
    refine mix_take (v := ?_) rfl (by rfl) ?_ ?_
    rotate_left
    · (intro W hSW; (try dsimp only at hSW); go_split_ands; go_simp; try with_reducible rfl)
    simp only [Act.put, List.setIfInBounds_toArray, List.set_cons_zero, List.set_cons_succ]
  refine mix_last rfl (fun K hK => ?_)
  go_simp
  refine hK.out _ _ (NoPanic.normal ?_)
  clear hK K
  by_cases hc : wt < 1152921504606846976 ∧ dx < 1152921504606846976
  · obtain ⟨hc1, hc2⟩ := hc
    have g1 : decide (wt < 1152921504606846976) = true := decide_eq_true hc1
    have g2 : decide (dx < 1152921504606846976) = true := decide_eq_true hc2
    go_wp2
    have hwr2 : IntKind.i64.wrap (dx + wt) = dx + wt := IntWalk.i64_in _ (by omega)
    refine wp_region_mix (fun w' => w'.cell? ⟨b11, 0, none⟩ = some (.slice (some ⟨go, 0, none⟩) M.h.n c) ∧ w'.cell? ⟨go, v, none⟩ = some (.int .i64 dv)) 11 [(0, true), (1, true), (2, true), (3, true), (4, true), (5, true), (6, true), (7, true), (8, true), (9, true), (10, true)] (by kernel_rfl) (by kernel_rfl) ⟨k11, kv⟩ ?_
    iterate 11
      refine mix_take (v := ?_) rfl (by rfl) ?_ ?_
      rotate_left
      · (intro W hSW; (try dsimp only at hSW); go_split_ands; go_simp; try with_reducible rfl)
      simp only [Act.put, List.setIfInBounds_toArray, List.set_cons_zero, List.set_cons_succ]
    refine mix_last rfl (fun K hK => ?_)
    go_simp
    refine hK.out _ _ (NoPanic.normal ?_)
    clear hK K
    clear hwr2
    go_wp2
    go_end0
    refine ⟨rfl, ?_, ?_⟩
    · exact (grown_drewN w 2 (some go)).trans (grown_set _ ⟨go, v, none⟩ _)
    · have := blk_set' (show (w.drewN 2).heap[go]? = _ from Hgo.out) v (.int .i64 (Min.min dv (dx + wt)))
      rw [show (Value.int .i64 (Min.min dv (dx + wt))) = intv (Min.min dv (dx + wt)) from rfl, map_set_intv] at this
      rw [Hrel.out, if_pos (by unfold INF; exact ⟨hc1, hc2⟩)]
      exact this
  · have Hrel2 : Hid (relaxD d v x wt = d) := by rw [Hrel.out, if_neg (by unfold INF; exact hc)]; exact rfl
    by_cases hc1 : wt < 1152921504606846976
    · have hc2 : ¬ dx < 1152921504606846976 := fun h => hc ⟨hc1, h⟩
      have g1 : decide (wt < 1152921504606846976) = true := decide_eq_true hc1
      have g2 : decide (dx < 1152921504606846976) = false := decide_eq_false hc2
      clear hc
      go_wp2
      go_end0
      exact ⟨rfl, grown_drewN w 1 _, by rw [Hrel2.out]; exact Hgo.out⟩
    · have g1 : decide (wt < 1152921504606846976) = false := decide_eq_false hc1
      clear hc
      go_wp2
      go_end0
      exact ⟨rfl, grown_drewN w 1 _, by rw [Hrel2.out]; exact Hgo.out⟩
set_option maxRecDepth 100000 in
set_option maxHeartbeats 4000000 in
theorem relax_up {w : World} {m h : Nat} {M : MD} (H : MetAt w m h M) (hrng : ∀ i, 0 ≤ M.up.getD i 0 ∧ M.up.getD i 0 ≤ INF) (v e x : Nat) (he : e < M.h.edges.length) (hx : (M.h.edges.getD e (0, 0)).2 = x) (d : List Int) (hd : d.length = M.h.n) (hv : v < M.h.n) (hxn : x < M.h.n)
    (hrd : ∀ i, i < M.h.n → 0 ≤ d.getD i 0 ∧ d.getD i 0 ≤ INF) (b15 b11 b16 go : Nat) (A16 : Option Addr) (c16 : Nat) (c : Nat) (h15 : w.heap[b15]? = some (.cells #[.func (.func 80) #[.pointer (some ⟨m, 0, none⟩)] #[]] 124 (0, 0)))
    (h11 : w.heap[b11]? = some (.cells #[.slice (some ⟨go, 0, none⟩) M.h.n c] 25 (0, 0))) (h16 : w.heap[b16]? = some (.cells #[.slice A16 M.h.edges.length c16] 22 (0, 0))) (hgo : w.heap[go]? = some (.cells (d.map intv).toArray 3 (0, 0))) (hA : Arcs w A16 M.h.edges) :
    Calls Try.prog 81 #[.int .i64 (v : Int), .int .i64 (e : Int), .pointer (some ⟨b15, 0, none⟩), .pointer (some ⟨b11, 0, none⟩), .pointer (some ⟨b16, 0, none⟩)] w (RetRelax w go (relaxD d v x (M.up.getD e 0))) := by
  have hel := H.ok.h_ok.edges_len
  have hnl := H.ok.h_ok.n_le
  have hwr := hrng e
  obtain ⟨wt, hwt⟩ : ∃ wt, M.up.getD e 0 = wt := ⟨_, rfl⟩
  rw [hwt] at hwr ⊢
  have hdx := hrd x hxn
  have hdv := hrd v hv
  obtain ⟨dx, hdx'⟩ : ∃ y, d.getD x 0 = y := ⟨_, rfl⟩
  obtain ⟨dv, hdv'⟩ : ∃ y, d.getD v 0 = y := ⟨_, rfl⟩
  rw [hdx'] at hdx
  rw [hdv'] at hdv
  obtain ⟨bA, oA, rfl, hbA, _, cu⟩ := hA.at_ he
  rw [hx] at cu
  have k15 : w.cell? ⟨b15, 0, none⟩ = some (.func (.func 80) #[.pointer (some ⟨m, 0, none⟩)] #[]) := blk_cell' h15 0
  have k11 : w.cell? ⟨b11, 0, none⟩ = some (.slice (some ⟨go, 0, none⟩) M.h.n c) := blk_cell' h11 0
  have k16 : w.cell? ⟨b16, 0, none⟩ = some (.slice (some ⟨bA, oA, none⟩) M.h.edges.length c16) := blk_cell' h16 0
  have kx : w.cell? ⟨go, x, none⟩ = some (.int .i64 dx) := by rw [blk_cell' hgo, ← hdx']; simp [intv, List.getD, hd, hxn]
  have kv : w.cell? ⟨go, v, none⟩ = some (.int .i64 dv) := by rw [blk_cell' hgo, ← hdv']; simp [intv, List.getD, hd, hv]
  have fv := blk_free hgo v
  have l15 := blk_lt' h15
  have l11 := blk_lt' h11
  have l16 := blk_lt' h16
  have lgo := blk_lt' hgo
  have Hgo := hid hgo
  have EGW := hid (fun args w => enter_of (Try.func80) (by kernel_rfl) rfl args w)
  have hC := mup_any e (H.below (Below.refl _ _).drew) he
  rw [hwt] at hC
  have HC := hid hC
  have Hrel : Hid (relaxD d v x wt = if wt < INF ∧ dx < INF then d.set v (Min.min dv (dx + wt)) else d) := by unfold relaxD; rw [hdx', hdv']; exact rfl
  unfold INF at hwr hdx hdv
  clear H hrng hrd hx h15 h11 h16 hgo hA hwt hdx' hdv' hC hd
  go_enter Try.func81, Try.ntmps81
  go_wp2
  refine wp_region_mix (fun w' => w'.cell? ⟨b15, 0, none⟩ = some (.func (.func 80) #[.pointer (some ⟨m, 0, none⟩)] #[]) ∧ w'.cell? ⟨b11, 0, none⟩ = some (.slice (some ⟨go, 0, none⟩) M.h.n c) ∧ w'.cell? ⟨b16, 0, none⟩ = some (.slice (some ⟨bA, oA, none⟩) M.h.edges.length c16) ∧ w'.cell? ⟨bA, oA + e * 2 + 1, none⟩ = some (.int .i64 (x : Int)) ∧ w'.cell? ⟨go, x, none⟩ = some (.int .i64 dx)) 12 [(0, true), (1, true), (3, true), (4, true), (5, true), (6, true), (7, true), (8, true), (9, true), (10, true), (2, false), (11, true)] (by kernel_rfl) (by kernel_rfl) ⟨k15, k11, k16, cu, kx⟩ ?_
  iterate 10
    refine mix_take (v := ?_) rfl (by rfl) ?_ ?_
    rotate_left
    · (intro W hSW; (try dsimp only at hSW); go_split_ands; go_simp; try with_reducible rfl)
    simp only [Act.put, List.setIfInBounds_toArray, List.set_cons_zero, List.set_cons_succ]
  refine mix_callF (x := .tmp 9) (xs := #[.tmp 10]) (ts := #[3]) (d := some 11) (g := 80) (fs := #[.pointer (some ⟨m, 0, none⟩)]) (cs := #[]) (vs := #[.pointer (some ⟨m, 0, none⟩), .int .i64 (e : Int)]) (by kernel_rfl) (by kernel_rfl) (by kernel_rfl) EGW.out ?_
  refine (HC.out).mono ?_
  rintro en w2 ⟨rfl, rfl⟩
  refine ⟨_, rfl, ⟨k15, k11, k16, cu, kx⟩, ?_⟩
  simp only [Act.put, List.setIfInBounds_toArray, List.set_cons_zero, List.set_cons_succ]
  iterate 1
    refine mix_take (v := ?_) rfl (by rfl) ?_ ?_
    rotate_left
    · (intro W hSW; (try dsimp only at hSW); go_split_ands; go_simp; try with_reducible rfl)
    simp only [Act.put, List.setIfInBounds_toArray, List.set_cons_zero, List.set_cons_succ]
  refine mix_last rfl (fun K hK => ?_)
  go_simp
  refine hK.out _ _ (NoPanic.normal ?_)
  clear hK K
  by_cases hc : wt < 1152921504606846976 ∧ dx < 1152921504606846976
  · obtain ⟨hc1, hc2⟩ := hc
    have g1 : decide (wt < 1152921504606846976) = true := decide_eq_true hc1
    have g2 : decide (dx < 1152921504606846976) = true := decide_eq_true hc2
    go_wp2
    have hwr2 : IntKind.i64.wrap (dx + wt) = dx + wt := IntWalk.i64_in _ (by omega)
    refine wp_region_mix (fun w' => w'.cell? ⟨b11, 0, none⟩ = some (.slice (some ⟨go, 0, none⟩) M.h.n c) ∧ w'.cell? ⟨go, v, none⟩ = some (.int .i64 dv)) 11 [(0, true), (1, true), (2, true), (3, true), (4, true), (5, true), (6, true), (7, true), (8, true), (9, true), (10, true)] (by kernel_rfl) (by kernel_rfl) ⟨k11, kv⟩ ?_
    iterate 11
      refine mix_take (v := ?_) rfl (by rfl) ?_ ?_
      rotate_left
      · (intro W hSW; (try dsimp only at hSW); go_split_ands; go_simp; try with_reducible rfl)
      simp only [Act.put, List.setIfInBounds_toArray, List.set_cons_zero, List.set_cons_succ]
    refine mix_last rfl (fun K hK => ?_)
    go_simp
    refine hK.out _ _ (NoPanic.normal ?_)
    clear hK K
    clear hwr2
    go_wp2
    go_end0
    refine ⟨rfl, ?_, ?_⟩
    · exact (grown_drewN w 2 (some go)).trans (grown_set _ ⟨go, v, none⟩ _)
    · have := blk_set' (show (w.drewN 2).heap[go]? = _ from Hgo.out) v (.int .i64 (Min.min dv (dx + wt)))
      rw [show (Value.int .i64 (Min.min dv (dx + wt))) = intv (Min.min dv (dx + wt)) from rfl, map_set_intv] at this
      rw [Hrel.out, if_pos (by unfold INF; exact ⟨hc1, hc2⟩)]
      exact this
  · have Hrel2 : Hid (relaxD d v x wt = d) := by rw [Hrel.out, if_neg (by unfold INF; exact hc)]; exact rfl
    by_cases hc1 : wt < 1152921504606846976
    · have hc2 : ¬ dx < 1152921504606846976 := fun h => hc ⟨hc1, h⟩
      have g1 : decide (wt < 1152921504606846976) = true := decide_eq_true hc1
      have g2 : decide (dx < 1152921504606846976) = false := decide_eq_false hc2
      clear hc
      go_wp2
      go_end0
      exact ⟨rfl, grown_drewN w 1 _, by rw [Hrel2.out]; exact Hgo.out⟩
    · have g1 : decide (wt < 1152921504606846976) = false := decide_eq_false hc1
      clear hc
      go_wp2
      go_end0
      exact ⟨rfl, grown_drewN w 1 _, by rw [Hrel2.out]; exact Hgo.out⟩

end Go.Proofs.Ytpfjannhggcmiaa
