/- Contract of query.check on vertices of the graph; laws for maps in walks. -/
import Derived.Test.YtpfjannhggcmiaaCn2
namespace Go.Proofs.Ytpfjannhggcmiaa
open Go.RowKit Go.Maps

theorem wp_insertN (w : World) {ops : Array Oper} {rest : List Oper} {o : Oper} {a : Act} {Q : Exit → Act → World → Prop} (hg : o.guard = none) (m x v : Operand) (t : TypeId) (hop : o.op = Op.insert t m x v) (e : Nat) (ht : Try.prog.underlying t = some (.map 3 e)) (b n : Nat) (f : Nat → Option Value)
    (hm : a.eval m = .map (some b)) (h : NMap w b n f) (hn : n < 9223372036854775807) (k : Nat) (hk : k < 9223372036854775808) (hx : a.eval x = .int .i64 (k : Int)) (r : Value) (hv : a.eval v = r)
    (hK : ∀ w', NMap w' b (n + 1) (nput f k r) → w.grownBy w' (some b) → wpList Try.prog ops Q rest (a.put o.dst undef) w') : wpList Try.prog ops Q (o :: rest) a w := by
  refine wpList_plain hg fun K' hK' => ?_
  obtain ⟨w', hrun, h1, h2⟩ := h.store ht hn k hk r
  unfold Oper.wp
  simp [execOp, hop, hm, hx, hv, hrun, Result.andThen]
  exact hK' _ _ (hK w' h1 h2)
theorem mix_putN {ops : Array Oper} {Q : Exit → Act → World → Prop} {S : World → Prop} {i n' : Nat} {rest : List (Nat × Bool)} {a : Act} {w : World} {m x v : Operand} {t : TypeId}
    (ho : (ops[i]?).map (fun o => (o.op, o.dst, o.guard)) = some (.mapUpdate t m x v, none, none)) (e : Nat) (ht : Try.prog.underlying t = some (.map 3 e)) (b n : Nat) (f : Nat → Option Value)
    (hm : a.eval m = .map (some b)) (h : NMap w b n f) (hn : n < 9223372036854775807) (k : Nat) (hk : k < 9223372036854775808) (hx : a.eval x = .int .i64 (k : Int)) (r : Value) (hv : a.eval v = r)
    (hK : ∀ w', NMap w' b (n + 1) (nput f k r) → w.grownBy w' (some b) → S w' ∧ mixS Try.prog ops Q S n' rest a w') : mixS Try.prog ops Q S n' ((i, false) :: rest) a w := by
  cases hi : ops[i]? with
  | none => rw [hi] at ho; cases ho
  | some o =>
    rw [hi] at ho
    simp only [Option.map_some, Option.some.injEq, Prod.mk.injEq] at ho
    obtain ⟨h1, h2, h3⟩ := ho
    refine mix_call hi h3 ?_
    obtain ⟨w', hrun, k1, k2⟩ := h.store ht hn k hk r
    unfold OpDoes execOp
    simp [h1, h2, hm, hx, hv, hrun, Result.andThen, Act.put]
    exact hK w' k1 k2
theorem mix_putN_last {ops : Array Oper} {Q : Exit → Act → World → Prop} {S : World → Prop} {n' : Nat} {a : Act} {w : World} {m x v : Operand} {t : TypeId}
    (ho : (ops[n']?).map (fun o => (o.op, o.dst, o.guard)) = some (.mapUpdate t m x v, none, none)) (e : Nat) (ht : Try.prog.underlying t = some (.map 3 e)) (b n : Nat) (f : Nat → Option Value)
    (hm : a.eval m = .map (some b)) (h : NMap w b n f) (hn : n < 9223372036854775807) (k : Nat) (hk : k < 9223372036854775808) (hx : a.eval x = .int .i64 (k : Int)) (r : Value) (hv : a.eval v = r)
    (hK : ∀ w', NMap w' b (n + 1) (nput f k r) → w.grownBy w' (some b) → Q .normal a w') : mixS Try.prog ops Q S n' [] a w := by
  cases hi : ops[n']? with
  | none => rw [hi] at ho; cases ho
  | some o =>
    rw [hi] at ho
    simp only [Option.map_some, Option.some.injEq, Prod.mk.injEq] at ho
    obtain ⟨h1, h2, h3⟩ := ho
    refine wpOp_of_does (R := fun _ w' => Q .normal a w') hi h3 ?_ (fun u w' h => by rw [h2]; exact h)
    obtain ⟨w', hrun, k1, k2⟩ := h.store ht hn k hk r
    unfold OpDoes execOp
    simp [h1, hm, hx, hv, hrun, Result.andThen]
    exact hK w' k1 k2

set_option maxRecDepth 100000 in
set_option maxHeartbeats 1000000 in
theorem check_good {w : World} {m h : Nat} {M : MD} (H : MetAt w m h M) (A : Option Addr) (xs : List Nat) (c : Nat) (hx : Nats w A xs) (hlt : ∀ i, i < xs.length → xs.getD i 0 < M.h.n) (hl : xs.length ≤ 1024) :
    Calls Try.prog 50 #[.pointer (some ⟨m, 0, none⟩), .slice A xs.length c] w (RetVal w (.int .i64 0)) := by
  have HM := hid H
  have Hlt := hid hlt
  have Hx := hid hx
  clear H hlt hx
  go_enter Try.func50, Try.ntmps50
  go_wp2
  go_loop [11] (fun i => ∃ k : Nat, k ≤ xs.length ∧ i = .int .i64 k) (fun i => xs.length - (intOf i).toNat)
  case atStart => exact ⟨0, Nat.zero_le _, rfl⟩
  case round =>
    obtain ⟨k, hk, rfl⟩ := hrel
    by_cases hkl : k < xs.length
    · obtain ⟨b, o, rfl, hb, cx⟩ := Hx.out.at_ hkl
      have hv := Hlt.out k hkl
      obtain ⟨v, hve⟩ : ∃ v, xs.getD k 0 = v := ⟨_, rfl⟩
      rw [hve] at cx hv
      have hh := HM.out.hier
      obtain ⟨r, hr⟩ : ∃ r, M.h.ranks.getD v 0 = r := ⟨_, rfl⟩
      have hrk := rank_yes v hh hv
      rw [hr] at hrk
      have Hrk := hid hrk
      have Hmh := hid (mhier_any HM.out)
      clear hve hh hr hrk
      go_wp2_with fail
      refine Hmh.out.mono ?_
      rintro e w' ⟨rfl, hw⟩
      have hw' := hw.symm
      subst hw'
      go_wp2_with fail
      refine Hrk.out.mono ?_
      rintro e w' ⟨rfl, hw⟩
      subst hw
      go_wp2
      go_round
      case rel => exact ⟨k + 1, by omega, by go_num⟩
      case measure => simp [intOf]; omega
    · go_wp2
      go_ret
      exact ⟨rfl, rfl⟩

end Go.Proofs.Ytpfjannhggcmiaa
