/- Contract: the lower vertices of an edge. -/
import Derived.Test.YtpfjannhggcmiaaGet3
namespace Go.Proofs.Ytpfjannhggcmiaa
open Go.RowKit Go.Maps

/-- The vertices below both ends of an edge. -/
def HD.lower (D : HD) (e : Nat) : List Nat := (D.down.getD (D.edges.getD e (0, 0)).1 []).filter fun x => (D.num x (D.edges.getD e (0, 0)).2).isSome
theorem filter_take_succ {α : Type} (p : α → Bool) (L : List α) (k : Nat) (hk : k < L.length) (d : α) :
    (L.take (k + 1)).filter p = (L.take k).filter p ++ (if p (L.getD k d) then [L.getD k d] else []) := by
  rw [List.take_succ_eq_append_getElem hk, List.filter_append]
  simp [List.getD, hk, List.filter_cons]
/-- After k rounds: the vertices of the first k that have an edge to q. -/
def LowRel (w : World) (D : HD) (q : Nat) (L : List Nat) (v i : Value) (wr : World) : Prop :=
  ∃ k : Nat, k ≤ L.length ∧ i = .int .i64 k ∧ wr.ownsRow w.heap.size 3 1 v ((L.take k).filter fun x => (D.num x q).isSome).length (((L.take k).filter fun x => (D.num x q).isSome).map natv) ∧ Below w.heap.size w wr
theorem LowRel.mk {w : World} {D : HD} {q : Nat} {L F : List Nat} {v i : Value} {wr : World} (k : Nat) (hk : k ≤ L.length) (hi : i = .int .i64 k) (hF : ((L.take k).filter fun x => (D.num x q).isSome) = F) (ho : wr.ownsRow w.heap.size 3 1 v F.length (F.map natv)) (hb : Below w.heap.size w wr) : LowRel w D q L v i wr :=
  ⟨k, hk, hi, by rw [hF]; exact ho, hb⟩
set_option maxRecDepth 100000 in
set_option maxHeartbeats 4000000 in
theorem lower_any {h : Nat} {D : HD} (e : Nat) {w : World} (H : HierAt w h D) (he : e < D.edges.length) (hl : (D.down.getD (D.edges.getD e (0, 0)).1 []).length ≤ 1099511627776) :
    Calls Try.prog 99 #[.pointer (some ⟨h, 0, none⟩), .int .i64 e] w (RetNats w (D.lower e)) := by
  obtain ⟨i0, hi, hz0, hz1, hz2⟩ := info_parts info_int
  have lh := H.lt
  have hn := H.ok.n_le
  obtain ⟨Ae, ce, c4, hce, hE⟩ := H.edges
  obtain ⟨be, oe, rfl, hbe, ce1, ce2⟩ := hE.at_ he
  obtain ⟨hlt1, hlt2⟩ := H.ok.edge_lt e he
  have hlow : Hid (D.lower e = (D.down.getD (D.edges.getD e (0, 0)).1 []).filter fun x => (D.num x (D.edges.getD e (0, 0)).2).isSome) := rfl
  obtain ⟨p, hp⟩ : ∃ p, p = (D.edges.getD e (0, 0)).1 := ⟨_, rfl⟩
  obtain ⟨q, hq⟩ : ∃ q, q = (D.edges.getD e (0, 0)).2 := ⟨_, rfl⟩
  rw [← hp] at ce1 hlt1 hl
  rw [← hq] at ce2 hlt2
  rw [← hp, ← hq] at hlow
  obtain ⟨Ad, cd, c7, hcd, hr⟩ := H.down
  have hdl := H.ok.down_lt p hlt1
  obtain ⟨bd, od, A', c', rfl, hbd, cv, hc', hN⟩ := hr.at_ (k := p) (by rw [H.ok.down_len]; exact hlt1)
  obtain ⟨nb, nn, c5, hm⟩ := H.num
  obtain ⟨L, hL⟩ : ∃ L, L = D.down.getD p [] := ⟨_, rfl⟩
  rw [← hL] at hN cv hc' hdl hl hlow
  have HE : e < 9223372036854775807 := by have := H.ok.edges_len; omega
  have d1 : decide (D.edges.length ≤ e) = false := decide_eq_false (by omega)
  have d2 : decide ((e : Int) < 0) = false := decide_eq_false (by omega)
  clear H hr hE hp hq hL
  go_enter Try.func99, Try.ntmps99
  go_wp2
  go_quiet (fail)
  go_wp2
  go_loopw [5, 40] (fun v i wr => LowRel w D q L v i wr) (fun _ i _ => L.length - (intOf i).toNat)
  case atStart => exact LowRel.mk 0 (Nat.zero_le _) rfl rfl (World.ownsRow_nil _ _ _ _) (below_drewN' (Below.refl _ _) _)
  case round =>
    obtain ⟨k, hk, rfl, hown, hnx⟩ := hrel
    by_cases hlt : k < L.length
    · obtain ⟨b2, o2, rfl, hb2, cx⟩ := hN.at_ hlt
      have hx := hdl k hlt
      have hsucc : Hid (((L.take (k + 1)).filter fun x => (D.num x q).isSome) = ((L.take k).filter fun x => (D.num x q).isSome) ++ (if (D.num (L.getD k 0) q).isSome then [L.getD k 0] else [])) := filter_take_succ _ L k hlt 0
      obtain ⟨x, hxx⟩ : ∃ x, x = L.getD k 0 := ⟨_, rfl⟩
      rw [← hxx] at cx hx hsucc
      have Ll : ((L.take k).filter fun x => (D.num x q).isSome).length ≤ k := Nat.le_trans (List.length_filter_le _ _) (by simp; omega)
      obtain ⟨F, hF⟩ : ∃ F, F = (L.take k).filter fun x => (D.num x q).isSome := ⟨_, rfl⟩
      rw [← hF] at hown hsucc Ll
      have hlk : Hid (∀ n, (Instr.lookup 113 (.map (some nb)) (.agg #[.int .i64 (x : Int), .int .i64 (q : Int)]) true).run Try.prog (wr.drewN n) = .ok (.tuple #[.int .i64 (((D.num x q).getD 0 : Nat) : Int), .bool (D.num x q).isSome]) (wr.drewN n)) := by
        intro n
        have := (hm.below (below_drewN' hnx n)).look Try.underlying113 (zero_int (wr.drewN n)) true x q (by omega) (by omega)
        simpa [getD_natv, isSome_natv] using this
      have k4 := cell_later hnx c4
      have k5 := cell_later hnx c5
      have ke2 := cell_later hnx ce2
      have kx := cell_later hnx cx
      have hsz := hnx.size
      have Hown := hid hown
      have Hnx := hid hnx
      clear hxx hF hown hnx hdl hm hN c4 c5 c7 ce1 ce2 cx cv
      cases ho : D.num x q with
      | none =>
        rw [ho] at hlk hsucc
        have hlk2 := hlk.out
        simp only [Option.getD_none, Option.isSome_none] at hlk2
        have hs2 := hsucc.out
        simp only [Option.isSome_none, Option.isSome_some, Bool.false_eq_true, if_false, if_true, List.append_nil] at hs2
        replace hs2 := hid hs2
        clear ho hlk hsucc
        go_wp2
        go_quiet (fail)
        go_wp2
        go_roundw
        case rel => first | exact LowRel.mk (k + 1) (by omega) (by go_num) hs2.out Hown.out (below_drewN' Hnx.out _) | ((repeat apply Exists.intro); exact ⟨LowRel.mk (k + 1) (by omega) (by go_num) hs2.out Hown.out (below_drewN' Hnx.out _), rfl⟩)
        case measure => simp [intOf]; omega
      | some en =>
        rw [ho] at hlk hsucc
        have hlk2 := hlk.out
        simp only [Option.getD_some, Option.isSome_some] at hlk2
        have hs2 := hsucc.out
        simp only [Option.isSome_none, Option.isSome_some, Bool.false_eq_true, if_false, if_true, List.append_nil] at hs2
        replace hs2 := hid hs2
        clear ho hlk hsucc
        go_wp2
        go_quiet (fail)
        go_wp2_with (first | (at_builtin; refine wp_app1 rfl _ _ 25 3 _ 1 8 rfl Try.underlying25 info_int rfl (by decide) w.heap.size F.length _ (F.map natv) _ rfl rfl (by exact Hown.out) rfl (by simp [Value.oneCell']) (by omega) (by omega) (by exact hsz) ?_; intro v' w1 hown1 hgrow1 hloc1))
        go_roundw
        case rel =>
          have hb1 := (below_drewN' Hnx.out nq).grown hgrow1 (by exact hsz) (fun j hj => ((Hown.out).lt j hj).1)
          have ho1 : w1.ownsRow w.heap.size 3 1 v' (F ++ [x]).length ((F ++ [x]).map natv) := by simpa [natv] using hown1
          first | exact LowRel.mk (k + 1) (by omega) (by go_num) hs2.out ho1 hb1 | ((repeat apply Exists.intro); exact ⟨LowRel.mk (k + 1) (by omega) (by go_num) hs2.out ho1 hb1, rfl⟩)
        case measure => simp [intOf]; omega
    · have : k = L.length := by omega
      subst this
      go_wp2
      go_ret
      rw [List.take_length, ← hlow.out] at hown
      obtain ⟨A2, c2, hv, hc2, hf2, hN2⟩ := own_nats hown
      exact ⟨A2, c2, by rw [← hv]; rfl, hc2, hf2, hN2, hnx⟩

end Go.Proofs.Ytpfjannhggcmiaa
