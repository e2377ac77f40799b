/- The kit's Ints, Strings, Steps and Kept.. of them, where both lists are the same. -/
import Derived.Test.YtoidecclimhgjaaGreatDoorSteps
import Derived.Laws.AppendOwnNone
namespace Go.Proofs.YtoidecclimhgjaaGreatDoor
open Go.RowKit

theorem Row.left {w : World} {B : Nat} {A : Option Addr} {xs ys : List Value} (h : Row w B A (xs ++ ys)) : Row w B A xs := fun hn => by
  obtain ⟨b, o, e, hb, hc⟩ := h (by simp; omega)
  exact ⟨b, o, e, hb, fun j u hu => hc j u (by rw [List.getElem?_append_left (List.getElem?_eq_some_iff.1 hu).1]; exact hu)⟩
theorem Row.last {w : World} {B : Nat} {A : Option Addr} {xs ys : List Value} (h : Row w B A (xs ++ ys)) (hy : 0 < ys.length) : ∃ b o, A = some ⟨b, o, none⟩ ∧ b < B ∧ ∀ j u, ys[j]? = some u → w.cell? ⟨b, o + xs.length + j, none⟩ = some u := by
  obtain ⟨b, o, e, hb, hc⟩ := h (by simp; omega)
  refine ⟨b, o, e, hb, fun j u hu => ?_⟩
  rw [Nat.add_assoc]
  exact hc _ u (by rw [List.getElem?_append_right (by omega), Nat.add_sub_cancel_left]; exact hu)

theorem nums_length (l : List Int) : (nums l).length = l.length := by simp [nums]
theorem strs_length (l : List ByteArray) : (strs l).length = l.length := by simp [strs]

set_option maxHeartbeats 400000 in
theorem ints_same (A1 A2 : Option Addr) (c1 c2 : Nat) (l : List Int) (w : World) (B : Nat) (h1 : Row w B A1 (nums l)) (h2 : Row w B A2 (nums l)) (hl : l.length ≤ 140737488355328) :
    Calls Tryz.prog 73 #[.slice A1 l.length c1, .slice A2 l.length c2] w (Quiet w (.bool true)) := by
  go_enter Tryz.func73, Tryz.ntmps73
  go_wp2
  go_loopw [5] (fun i wr => ∃ k n : Nat, k ≤ l.length ∧ i = .int .i64 k ∧ wr = w.drewN n) (fun i _ => l.length - (intOf i).toNat)
  case atStart => exact ⟨0, 0, Nat.zero_le _, rfl, rfl⟩
  case round =>
    obtain ⟨k, n, hk, rfl, rfl⟩ := hrel
    by_cases hlt : k < l.length
    · obtain ⟨b, o, rfl, hbb, hc⟩ := h1.at_ (k := k) (by simpa [nums] using hlt)
      have x0 : w.cell? ⟨b, o + k, none⟩ = some (.int .i64 l[k]) := by rw [hc k (by simpa [nums] using hlt)]; simp [nums]
      obtain ⟨b', o', rfl, hbb', hc'⟩ := h2.at_ (k := k) (by simpa [nums] using hlt)
      have y0 : w.cell? ⟨b', o' + k, none⟩ = some (.int .i64 l[k]) := by rw [hc' k (by simpa [nums] using hlt)]; simp [nums]
      clear hc hc'
      go_wp2_with fail
      go_quiet (fail)
      go_wp2_with fail
      go_roundw
      case rel => exact ⟨k + 1, _, by omega, by go_num, rfl⟩
      case measure => simp [intOf]; omega
    · go_wp2_with fail
      go_ret
      exact ⟨rfl, _, rfl⟩

set_option maxHeartbeats 400000 in
theorem strings_same (A1 A2 : Option Addr) (c1 c2 : Nat) (l : List ByteArray) (w : World) (B : Nat) (h1 : Row w B A1 (strs l)) (h2 : Row w B A2 (strs l)) (hl : l.length ≤ 140737488355328) :
    Calls Tryz.prog 46 #[.slice A1 l.length c1, .slice A2 l.length c2] w (Quiet w (.bool true)) := by
  go_enter Tryz.func46, Tryz.ntmps46
  go_wp2
  go_loopw [5] (fun i wr => ∃ k n : Nat, k ≤ l.length ∧ i = .int .i64 k ∧ wr = w.drewN n) (fun i _ => l.length - (intOf i).toNat)
  case atStart => exact ⟨0, 0, Nat.zero_le _, rfl, rfl⟩
  case round =>
    obtain ⟨k, n, hk, rfl, rfl⟩ := hrel
    by_cases hlt : k < l.length
    · obtain ⟨b, o, rfl, hbb, hc⟩ := h1.at_ (k := k) (by simpa [strs] using hlt)
      have x0 : w.cell? ⟨b, o + k, none⟩ = some (.string l[k]) := by rw [hc k (by simpa [strs] using hlt)]; simp [strs]
      obtain ⟨b', o', rfl, hbb', hc'⟩ := h2.at_ (k := k) (by simpa [strs] using hlt)
      have y0 : w.cell? ⟨b', o' + k, none⟩ = some (.string l[k]) := by rw [hc' k (by simpa [strs] using hlt)]; simp [strs]
      clear hc hc'
      go_wp2_with fail
      go_quiet (fail)
      go_wp2_with fail
      go_roundw
      case rel => exact ⟨k + 1, _, by omega, by go_num, rfl⟩
      case measure => simp [intOf]; omega
    · go_wp2_with fail
      go_ret
      exact ⟨rfl, _, rfl⟩

set_option maxHeartbeats 400000 in
theorem steps_same (A1 A2 : Option Addr) (c1 c2 : Nat) (l : List (Int × Int × Int)) (w : World) (B : Nat) (h1 : Row w B A1 (stepCells l)) (h2 : Row w B A2 (stepCells l)) (hl : l.length ≤ 140737488355328) :
    Calls Tryz.prog 28 #[.slice A1 l.length c1, .slice A2 l.length c2] w (Quiet w (.bool true)) := by
  go_enter Tryz.func28, Tryz.ntmps28
  go_wp2
  go_loopw [5] (fun i wr => ∃ k n : Nat, k ≤ l.length ∧ i = .int .i64 k ∧ wr = w.drewN n) (fun i _ => l.length - (intOf i).toNat)
  case atStart => exact ⟨0, 0, Nat.zero_le _, rfl, rfl⟩
  case round =>
    obtain ⟨k, n, hk, rfl, rfl⟩ := hrel
    by_cases hlt : k < l.length
    · obtain ⟨b, o, rfl, hbb, x0, x1, x2⟩ := h1.steps hlt
      obtain ⟨b', o', rfl, hbb', y0, y1, y2⟩ := h2.steps hlt
      obtain ⟨p, Hp⟩ : ∃ p, Hid (l[k] = p) := ⟨l[k], Lib.hid rfl⟩
      rw [Hp.out] at x0 x1 x2 y0 y1 y2
      obtain ⟨p0, p1, p2⟩ := p
      simp only at x0 x1 x2 y0 y1 y2
      have hq : ∀ W, (binOp .neq 42 (.agg #[.int .i64 p0, .int .i64 p1, .int .i64 p2]) (.agg #[.int .i64 p0, .int .i64 p1, .int .i64 p2])).run Tryz.prog W = .ok (.bool false) W := fun W => by simpa using step_neq p0 p1 p2 p0 p1 p2 W
      go_wp2_with fail
      go_quiet (fail)
      go_wp2_with fail
      go_roundw
      case rel => exact ⟨k + 1, _, by omega, by go_num, rfl⟩
      case measure => simp [intOf]; omega
    · go_wp2_with fail
      go_ret
      exact ⟨rfl, _, rfl⟩

set_option maxHeartbeats 400000 in
theorem keptInts_same (A1 A2 : Option Addr) (c1 c2 : Nat) (l : List Int) (w : World) (B : Nat) (h1 : Row w B A1 (nums l ++ [.int .i64 (-7171)])) (h2 : Row w B A2 (nums l)) (hl : l.length ≤ 140737488355328) (hc : l.length + 1 ≤ c1) :
    Calls Tryz.prog 47 #[.slice A1 l.length c1, .slice A2 l.length c2] w (Quiet w (.bool true)) := by
  obtain ⟨b, o, rfl, hb, hm⟩ := h1.last (by simp)
  have hm0 := hm 0 _ rfl
  simp only [nums_length, Nat.add_zero] at hm0
  have H := Lib.hid (ints_same (some ⟨b, o, none⟩) A2 c1 c2 l w B h1.left h2 hl)
  clear hm h1 h2
  go_enter Tryz.func47, Tryz.ntmps47
  go_wp2_with fail
  refine H.out.mono ?_
  rintro en w1 ⟨rfl, m, rfl⟩
  go_wp2_with fail
  go_ret
  exact ⟨rfl, _, rfl⟩

set_option maxHeartbeats 400000 in
theorem keptStrings_same (A1 A2 : Option Addr) (c1 c2 : Nat) (l : List ByteArray) (w : World) (B : Nat) (h1 : Row w B A1 (strs l ++ [.string ⟨#[109, 97, 114, 107]⟩])) (h2 : Row w B A2 (strs l)) (hl : l.length ≤ 140737488355328) (hc : l.length + 1 ≤ c1) :
    Calls Tryz.prog 26 #[.slice A1 l.length c1, .slice A2 l.length c2] w (Quiet w (.bool true)) := by
  obtain ⟨b, o, rfl, hb, hm⟩ := h1.last (by simp)
  have hm0 := hm 0 _ rfl
  simp only [strs_length, Nat.add_zero] at hm0
  have H := Lib.hid (strings_same (some ⟨b, o, none⟩) A2 c1 c2 l w B h1.left h2 hl)
  clear hm h1 h2
  go_enter Tryz.func26, Tryz.ntmps26
  go_wp2_with fail
  refine H.out.mono ?_
  rintro en w1 ⟨rfl, m, rfl⟩
  go_wp2_with fail
  go_ret
  exact ⟨rfl, _, rfl⟩

set_option maxHeartbeats 400000 in
theorem keptSteps_same (A1 A2 : Option Addr) (c1 c2 : Nat) (l : List (Int × Int × Int)) (w : World) (B : Nat) (h1 : Row w B A1 (stepCells l ++ [.int .i64 (-71), .int .i64 0, .int .i64 0])) (h2 : Row w B A2 (stepCells l)) (hl : l.length ≤ 140737488355328) (hc : l.length + 1 ≤ c1) :
    Calls Tryz.prog 10 #[.slice A1 l.length c1, .slice A2 l.length c2] w (Quiet w (.bool true)) := by
  obtain ⟨b, o, rfl, hb, hm⟩ := h1.last (by simp)
  have hm0 := hm 0 _ rfl
  have hm1 := hm 1 _ rfl
  have hm2 := hm 2 _ rfl
  simp only [stepCells_length, Nat.add_zero] at hm0 hm1 hm2
  have H := Lib.hid (steps_same (some ⟨b, o, none⟩) A2 c1 c2 l w B h1.left h2 hl)
  clear hm h1 h2
  go_enter Tryz.func10, Tryz.ntmps10
  go_wp2_with fail
  refine H.out.mono ?_
  rintro en w1 ⟨rfl, m, rfl⟩
  go_wp2_with fail
  go_ret
  exact ⟨rfl, _, rfl⟩
end Go.Proofs.YtoidecclimhgjaaGreatDoor
