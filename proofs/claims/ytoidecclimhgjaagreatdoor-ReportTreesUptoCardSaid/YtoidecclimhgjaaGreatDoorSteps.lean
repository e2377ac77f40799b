/- slices.Equal over steps. -/
import Derived.Test.YtoidecclimhgjaaGreatDoorWalk3
namespace Go.Proofs.YtoidecclimhgjaaGreatDoor
open Go.RowKit

theorem step_neq (a b c a' b' c' : Int) (w : World) : (binOp .neq 42 (.agg #[.int .i64 a, .int .i64 b, .int .i64 c]) (.agg #[.int .i64 a', .int .i64 b', .int .i64 c'])).run Tryz.prog w = .ok (.bool (!(decide ((a, b, c) = (a', b', c'))))) w := by
  go_simp
  by_cases h1 : a = a' <;> by_cases h2 : b = b' <;> by_cases h3 : c = c' <;> simp [h1, h2, h3]

theorem stepCells_at (l : List (Int × Int × Int)) (k : Nat) (hk : k < l.length) : (stepCells l)[k * 3]? = some (.int .i64 l[k].1) ∧ (stepCells l)[k * 3 + 1]? = some (.int .i64 l[k].2.1) ∧ (stepCells l)[k * 3 + 2]? = some (.int .i64 l[k].2.2) := by
  induction l generalizing k with
  | nil => simp at hk
  | cons a l ih =>
    cases k with
    | zero => exact ⟨rfl, rfl, rfl⟩
    | succ k =>
      obtain ⟨h1, h2, h3⟩ := ih k (by simpa using hk)
      refine ⟨?_, ?_, ?_⟩
      · rw [show (k + 1) * 3 = k * 3 + 3 by omega]; exact h1
      · rw [show (k + 1) * 3 + 1 = k * 3 + 1 + 3 by omega]; exact h2
      · rw [show (k + 1) * 3 + 2 = k * 3 + 2 + 3 by omega]; exact h3
theorem Row.steps {w : World} {B : Nat} {A : Option Addr} {l : List (Int × Int × Int)} (h : Row w B A (stepCells l)) {k : Nat} (hk : k < l.length) :
    ∃ b o, A = some ⟨b, o, none⟩ ∧ b < B ∧ w.cell? ⟨b, o + k * 3, none⟩ = some (.int .i64 l[k].1) ∧ w.cell? ⟨b, o + k * 3 + 1, none⟩ = some (.int .i64 l[k].2.1) ∧ w.cell? ⟨b, o + k * 3 + 2, none⟩ = some (.int .i64 l[k].2.2) := by
  obtain ⟨b, o, e, hb, hc⟩ := h (by rw [stepCells_length]; omega)
  obtain ⟨h0, h1, h2⟩ := stepCells_at l k hk
  exact ⟨b, o, e, hb, hc _ _ h0, hc _ _ h1, hc _ _ h2⟩

set_option maxHeartbeats 1000000 in
theorem eq_steps (A1 A2 : Option Addr) (c1 c2 : Nat) (l m : List (Int × Int × Int)) (w : World) (B : Nat) (h1 : Row w B A1 (stepCells l)) (h2 : Row w B A2 (stepCells m)) (hl : l.length ≤ 140737488355328) (_hm : m.length ≤ 140737488355328) :
    Calls Tryz.prog 50 #[.slice A1 l.length c1, .slice A2 m.length c2] w (Quiet w (.bool (decide (l = m)))) := by
  by_cases hlen : l.length = m.length
  · go_enter Tryz.func50, Tryz.ntmps50
    have Hlen := Lib.hid hlen
    have hb : ((l.length : Int) != m.length) = false := by simp [hlen]
    clear hlen
    go_wp2
    go_loopw [13] (fun i wr => ∃ k n : Nat, k ≤ l.length ∧ i = .int .i64 k ∧ wr = w.drewN n ∧ l.take k = m.take k) (fun i _ => l.length - (intOf i).toNat)
    case atStart => exact ⟨0, 0, Nat.zero_le _, rfl, rfl, by simp⟩
    case round =>
      obtain ⟨k, n, hk, rfl, rfl, hi⟩ := hrel
      have Hi := Lib.hid hi
      clear hi
      by_cases hlt : k < l.length
      · have hlt2 : k < m.length := by have := Hlen.out; omega
        obtain ⟨b, o, rfl, hbb, x0, x1, x2⟩ := h1.steps hlt
        obtain ⟨b', o', rfl, hbb', y0, y1, y2⟩ := h2.steps hlt2
        obtain ⟨p, Hp⟩ : ∃ p, Hid (l[k] = p) := ⟨l[k], Lib.hid rfl⟩
        obtain ⟨q, Hq⟩ : ∃ q, Hid (m[k] = q) := ⟨m[k], Lib.hid rfl⟩
        rw [Hp.out] at x0 x1 x2
        rw [Hq.out] at y0 y1 y2
        obtain ⟨p0, p1, p2⟩ := p
        obtain ⟨q0, q1, q2⟩ := q
        simp only at x0 x1 x2 y0 y1 y2
        have hq : ∀ W, (binOp .neq 42 (.agg #[.int .i64 p0, .int .i64 p1, .int .i64 p2]) (.agg #[.int .i64 q0, .int .i64 q1, .int .i64 q2])).run Tryz.prog W = .ok (.bool (!(decide ((p0, p1, p2) = (q0, q1, q2))))) W := fun W => step_neq _ _ _ _ _ _ W
        by_cases he : (p0, p1, p2) = (q0, q1, q2)
        · simp only [Prod.mk.injEq] at he
          obtain ⟨rfl, rfl, rfl⟩ := he
          go_wp2_with fail
          go_quiet (fail)
          go_wp2_with fail
          go_roundw
          case rel => exact ⟨k + 1, _, by omega, by go_num, rfl, by rw [List.take_succ_eq_append_getElem hlt, List.take_succ_eq_append_getElem hlt2, Hi.out, Hp.out, Hq.out]⟩
          case measure => simp [intOf]; omega
        · simp only [he, decide_false, Bool.not_false] at hq
          have He := Lib.hid he
          clear he
          go_wp2_with fail
          go_quiet (fail)
          go_wp2_with fail
          go_ret
          exact ⟨ret_bool (by symm; rw [decide_eq_false_iff_not]; intro e; subst e; exact He.out (Hp.out.symm.trans Hq.out)), n + nq, by simp⟩
      · go_wp2_with fail
        go_ret
        exact ⟨ret_bool (by symm; rw [decide_eq_true_eq]; have := Hi.out; have h5 := Hlen.out; rwa [List.take_of_length_le (by omega), List.take_of_length_le (by omega)] at this), _, rfl⟩
  · have hb : ((l.length : Int) != m.length) = true := by simp; omega
    have Hne := Lib.hid hlen
    clear hlen
    go_enter Tryz.func50, Tryz.ntmps50
    go_wp2
    go_ret
    exact ⟨ret_bool (by symm; rw [decide_eq_false_iff_not]; intro e; exact Hne.out (by rw [e])), 0, rfl⟩
end Go.Proofs.YtoidecclimhgjaaGreatDoor
