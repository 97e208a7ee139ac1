/- Contract of sweep.Within. -/
import Derived.Test.YtpfjannhggcmiaaWi1
namespace Go.Proofs.Ytpfjannhggcmiaa
open Go.RowKit Go.Maps

/-- The vertices below k within the limit, and their distances. -/
def selL (d : List Int) (limit : Int) (k : Nat) : List (Nat × Int) := ((List.range k).filter fun v => decide (d.getD v 0 ≤ limit) && decide (d.getD v 0 < INF)).map fun v => (v, d.getD v 0)
theorem selL_yes (d : List Int) (limit : Int) (k : Nat) (h1 : d.getD k 0 ≤ limit) (h2 : d.getD k 0 < INF) : selL d limit (k + 1) = selL d limit k ++ [(k, d.getD k 0)] := by
  unfold selL
  rw [List.range_succ, List.filter_append, List.map_append]
  have : [k].filter (fun v => decide (d.getD v 0 ≤ limit) && decide (d.getD v 0 < INF)) = [k] := by rw [List.filter_cons_of_pos (by rw [decide_eq_true h1, decide_eq_true h2]; rfl)]; rfl
  rw [this]; rfl
theorem selL_no (d : List Int) (limit : Int) (k : Nat) (h : ¬ (d.getD k 0 ≤ limit ∧ d.getD k 0 < INF)) : selL d limit (k + 1) = selL d limit k := by
  unfold selL
  rw [List.range_succ, List.filter_append, List.map_append]
  have : [k].filter (fun v => decide (d.getD v 0 ≤ limit) && decide (d.getD v 0 < INF)) = [] := by rw [List.filter_cons_of_neg (by simpa using h)]; rfl
  rw [this]; simp
theorem selL_len (d : List Int) (limit : Int) (k : Nat) : (selL d limit k).length ≤ k := by
  unfold selL
  rw [List.length_map]
  exact Nat.le_trans (List.length_filter_le _ _) (by simp)
def RetWi (w : World) (n : Nat) (E : List (Nat × Nat)) (ws : List Int) (s : Nat) (limit : Int) (en : Ending) (w' : World) : Prop :=
  ∃ (d : List Int) (L : List (Nat × Int)) (A : Option Addr) (c : Nat), IsDist n E ws s d ∧ L = sSort (fun p : Nat × Int => p.2) (selL d limit n) ∧ en = .returned (.tuple #[.slice A L.length c, .int .i64 0]) ∧ L.length ≤ c ∧ Pairs w' A L ∧ Below w.heap.size w w'
def WiR (W1 : World) (d : List Int) (limit : Int) (x i : Value) (wr : World) : Prop :=
  ∃ k : Nat, k ≤ d.length ∧ i = .int .i64 k ∧ wr.ownsRow W1.heap.size 79 2 x (selL d limit k).length ((selL d limit k).flatMap pairv) ∧ Below W1.heap.size W1 wr
theorem ret_wi {A : Option Addr} {a b c : Nat} {i : Value} (h : a = b) : Ending.returned (.tuple #[.slice A a c, i]) = .returned (.tuple #[.slice A b c, i]) := by rw [h]

set_option maxRecDepth 100000 in
set_option maxHeartbeats 4000000 in
theorem within_good {n : Nat} {E : List (Nat × Nat)} {ws : List Int} {order ranks : List Nat} {edges : List (Nat × Nat)} {w : World} {m h : Nat} {M : MD} (H : MetAt w m h M) (G : Good n E ws order ranks edges M) (s : Nat) (hs : s < n) (hn : n ≤ 19) (limit : Int) :
    Calls Try.prog 20 #[.pointer (some ⟨m, 0, none⟩), .int .i64 (s : Int), .int .i64 limit] w (RetWi w n E ws s limit) := by
  have HC := hid (sfrom_good H G s hs (by omega))
  clear H G
  go_enter Try.func20, Try.ntmps20
  go_wp2_with fail
  refine HC.out.mono ?_
  rintro en w1 ⟨d, A, c, rfl, hd, hc, hf, hI, hb⟩
  have hdl : d.length ≤ 19 := by have := hd.1; omega
  have Hd := hid hd
  have HI := hid hI
  have HB := hid hb
  clear hd hI hb hf
  go_wp2
  go_loopw [10, 23] (fun x i wr => WiR w1 d limit x i wr) (fun _ i _ => d.length - (intOf i).toNat)
  case atStart => exact ⟨0, Nat.zero_le _, rfl, World.ownsRow_nil _ _ _ _, Below.refl _ _⟩
  case round =>
    obtain ⟨k, hk, rfl, hown, hnx⟩ := hrel
    have Hown := hid hown
    have Hnx := hid hnx
    by_cases hlt : k < d.length
    · obtain ⟨b, o, rfl, hb, cx⟩ := HI.out.at_ hlt
      obtain ⟨dk, hdk⟩ : ∃ x, d.getD k 0 = x := ⟨_, rfl⟩
      rw [hdk] at cx
      replace cx := cell_later hnx cx
      have lb : b < wr.heap.size := Nat.lt_of_lt_of_le hb hnx.size
      have hsl := selL_len d limit k
      have hbs : w1.heap.size ≤ wr.heap.size := hnx.size
      have Hdk := hid hdk
      clear hown hnx hdk
      by_cases h1 : dk ≤ limit
      · have g1 : decide (dk ≤ limit) = true := decide_eq_true h1
        by_cases h2 : dk < 1152921504606846976
        · have g2 : decide (dk < 1152921504606846976) = true := decide_eq_true h2
          have hsel := selL_yes d limit k (by rw [Hdk.out]; exact h1) (by rw [Hdk.out]; exact h2)
          rw [Hdk.out] at hsel
          have Hsel := hid hsel
          obtain ⟨S, hS⟩ : ∃ S, S = selL d limit k := ⟨_, rfl⟩
          have HS := hid hS
          have HownS : Hid (wr.ownsRow w1.heap.size 79 2 u10 S.length (S.flatMap pairv)) := by rw [hS]; exact Hown.out
          rw [← hS] at hsl
          clear hsel hS
          go_wp2_with (first
            | (at_builtin; refine wp_app1 rfl _ _ 38 79 _ 2 16 rfl Try.underlying38 info_reached rfl (by decide) w1.heap.size S.length _ (S.flatMap pairv) [.int .i64 (k : Int), .int .i64 dk] rfl rfl (by exact HownS.out) rfl (by simp [Value.oneCell']) (by omega) (by omega) (by exact hbs) ?_; intro v' w5 hown5 hgrow5 hloc5; obtain ⟨A5, c5, hv5, _, _, _⟩ := own_row hown5; subst hv5; have Hown5 := hid hown5; have Hgrow5 := hid hgrow5; clear hown5 hgrow5 hloc5))
          go_roundw
          case rel =>
            have hR : WiR w1 d limit (.slice A5 (S.length + 1) c5) (.int .i64 ((k + 1 : Nat) : Int)) w5 := by
              refine ⟨k + 1, hlt, rfl, ?_, Hnx.out.grown Hgrow5.out hbs (fun j hj => (HownS.out.lt j hj).1)⟩
              rw [Hsel.out, ← HS.out]
              have e1 : (S ++ [(k, dk)]).length = S.length + 1 := by simp
              have e2 : (S ++ [(k, dk)]).flatMap pairv = S.flatMap pairv ++ [.int .i64 (k : Int), .int .i64 dk] := by simp [pairv]
              rw [e1, e2]
              exact Hown5.out
            first | exact hR | ((repeat apply Exists.intro); exact ⟨hR, rfl⟩)
          case measure => simp [intOf]; omega
        · have g2 : decide (dk < 1152921504606846976) = false := decide_eq_false h2
          have Hsel := hid (selL_no d limit k (by rw [Hdk.out]; unfold INF; omega))
          go_wp2
          go_roundw
          case rel =>
            have hR : WiR w1 d limit u10 (.int .i64 ((k + 1 : Nat) : Int)) wr := ⟨k + 1, hlt, rfl, by rw [Hsel.out]; exact Hown.out, Hnx.out⟩
            first | exact hR | ((repeat apply Exists.intro); exact ⟨hR, rfl⟩)
          case measure => simp [intOf]; omega
      · have g1 : decide (dk ≤ limit) = false := decide_eq_false h1
        have Hsel := hid (selL_no d limit k (by rw [Hdk.out]; omega))
        go_wp2
        go_roundw
        case rel =>
          have hR : WiR w1 d limit u10 (.int .i64 ((k + 1 : Nat) : Int)) wr := ⟨k + 1, hlt, rfl, by rw [Hsel.out]; exact Hown.out, Hnx.out⟩
          first | exact hR | ((repeat apply Exists.intro); exact ⟨hR, rfl⟩)
        case measure => simp [intOf]; omega
    · have hkn : k = d.length := by omega
      have hsl := selL_len d limit k
      have hkn2 : Hid (k = n) := hid (hkn.trans Hd.out.1)
      obtain ⟨S, hS⟩ : ∃ S, S = selL d limit k := ⟨_, rfl⟩
      rw [← hS] at hown hsl
      have hSn : Hid (S = selL d limit n) := by rw [hS, hkn2.out]; exact rfl
      have Hl := hid (sSort_len (fun p : Nat × Int => p.2) S)
      clear hS
      rcases hown.2 with ⟨hu, hxs⟩ | ⟨g, cap, cur, hu, hg1, hh, hcp, hcm, hsz, hx⟩
      · have hS0 : S.length = 0 := hxs
        have HS0 := hid hS0
        subst hu
        subst hkn
        clear hown hnx hxs hS0 hsl Hown
        go_wp2_with fail
        refine (stable_none _).mono ?_
        rintro en w5 ⟨rfl, hw5⟩
        subst hw5
        go_wp2
        go_ret2
        exact ⟨d, _, none, 0, Hd.out, by rw [← hSn.out], ret_wi (by rw [Hl.out, HS0.out]), by rw [Hl.out, HS0.out]; exact Nat.le_refl _, .inl (by rw [Hl.out, HS0.out]), HB.out.trans (Hnx.out.mono HB.out.size)⟩
      · have HownS := hid hown
        subst hu
        subst hkn
        clear hown hnx hh hx Hown
        go_wp2_with fail
        refine (stable_reached HownS.out (by omega)).mono ?_
        rintro en w5 ⟨rfl, hP, hb5⟩
        have HP := hid hP
        have HB5 := hid hb5
        clear hP hb5
        go_wp2
        go_ret2
        exact ⟨d, _, some ⟨g, 0, none⟩, cap, Hd.out, by rw [← hSn.out], ret_wi Hl.out.symm, by rw [Hl.out]; exact hcp, HP.out, HB.out.trans ((Hnx.out.trans HB5.out).mono HB.out.size)⟩

end Go.Proofs.Ytpfjannhggcmiaa
