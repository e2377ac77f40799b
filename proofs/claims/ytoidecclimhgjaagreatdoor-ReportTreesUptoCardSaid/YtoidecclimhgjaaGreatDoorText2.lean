/- words.Plain, show.free. -/
import Derived.Test.YtoidecclimhgjaaGreatDoorText1
namespace Go.Proofs.YtoidecclimhgjaaGreatDoor
open Go.RowKit

def plainAll (s : ByteArray) : Prop := (∀ i (h : i < s.size), plainB s[i] = true) ∧ ∃ h : 0 < s.size, s[0] ≠ 35
instance (s : ByteArray) : Decidable (plainAll s) := by unfold plainAll; infer_instance

set_option maxHeartbeats 400000 in
theorem plain_any (s : ByteArray) (hs : s.size ≤ 4611686018427387904) (w : World) : Calls Tryz.prog 81 #[.string s] w (Quiet w (.bool (decide (plainAll s)))) := by
  go_enter Tryz.func81, Tryz.ntmps81
  go_wp2
  go_loopw [6] (fun i wr => ∃ k n : Nat, k ≤ s.size ∧ i = .int .i64 k ∧ wr = w.drewN n ∧ ∀ i (h : i < s.size), i < k → plainB s[i] = true) (fun i _ => s.size - (intOf i).toNat)
  case atStart => exact ⟨0, 0, Nat.zero_le _, rfl, rfl, fun i _ h => absurd h (by omega)⟩
  case round =>
    obtain ⟨k, n, hk, rfl, rfl, hi⟩ := hrel
    have Hi := Lib.hid hi
    clear hi
    by_cases hlt : k < s.size
    · have H := Lib.hid (plain_1 s[k] (w.drewN n))
      go_wp2_with fail
      refine H.out.mono ?_
      rintro e w' ⟨rfl, m, rfl⟩
      by_cases hb : plainB s[k] = true
      · go_wp2
        go_roundw
        case rel => exact ⟨k + 1, _, by omega, by go_num, rfl, fun i h hik => by
          by_cases e : i = k
          · subst e; exact hb
          · exact Hi.out i h (by omega)⟩
        case measure => simp [intOf]; omega
      · go_wp2
        go_ret
        exact ⟨ret_bool (decide_eq_false fun h => hb (h.1 k hlt)).symm, _, rfl⟩
    · have Hall : Hid (∀ i (h : i < s.size), plainB s[i] = true) := Lib.hid fun i h => Hi.out i h (by omega)
      by_cases h0 : s.size = 0
      · have hl : s.toList = [] := by rw [ByteArray.toList_eq]; exact List.eq_nil_of_length_eq_zero h0
        go_wp2_with fail
        go_ret
        exact ⟨ret_bool (by rw [decide_eq_false (fun hp => absurd hp.2.1 (by omega))]), _, rfl⟩
      · have hp : 0 < s.size := by omega
        have hl : s.toList ≠ [] := by rw [ByteArray.toList_eq]; intro h; exact h0 (congrArg List.length h)
        go_wp2_with fail
        go_ret
        exact ⟨ret_bool (by
          rw [Bool.eq_iff_iff]
          simp only [decide_eq_true_eq, plainAll, Hall.out, implies_true, true_and, hp, exists_true_left, Bool.and_eq_true, bne_iff_ne, Bool.not_eq_true', List.isEmpty_eq_false_iff, ne_eq, hl, not_false_eq_true]
          rw [← UInt8.toNat_inj]; simp; omega), _, rfl⟩

set_option maxHeartbeats 1000000 in
theorem free_any (s : ByteArray) (hs : s.size ≤ 4611686018427387904) (w : World) :
    Calls Tryz.prog 54 #[.string s] w (Quiet w (.bool (decide (plainAll s ∧ s ≠ ⟨#[58]⟩ ∧ s ≠ ⟨#[124]⟩)))) := by
  have H := Lib.hid (plain_any s hs w)
  by_cases h1 : plainAll s
  · rw [decide_eq_true h1] at H
    by_cases h2 : s = ⟨#[58]⟩
    · have hl : s.toList = [58] := by rw [h2, ByteArray.toList_eq]
      rw [decide_eq_false (fun h => h.2.1 h2)]
      clear h2
      go_enter Tryz.func54, Tryz.ntmps54
      go_wp2_with fail
      refine H.out.mono ?_
      rintro e w' ⟨rfl, m, rfl⟩
      go_wp2_with fail
      go_ret
      exact ⟨rfl, _, rfl⟩
    · have hl : s.toList ≠ [58] := fun h => h2 (ByteArray.ext (Array.ext' (by rw [← ByteArray.toList_eq, h])))
      have h3 : (s ≠ ⟨#[124]⟩) ↔ s.toList ≠ [124] := not_congr ⟨fun h => by rw [h, ByteArray.toList_eq], fun h => ByteArray.ext (Array.ext' (by rw [← ByteArray.toList_eq, h]))⟩
      have H3 : Hid (decide (plainAll s ∧ s ≠ ⟨#[58]⟩ ∧ s ≠ ⟨#[124]⟩) = !(s.toList == [124])) := by
        show _ = _
        rw [Bool.eq_iff_iff]; simp [h1, h2]; simpa using h3
      clear h3 h2
      go_enter Tryz.func54, Tryz.ntmps54
      go_wp2_with fail
      refine H.out.mono ?_
      rintro e w' ⟨rfl, m, rfl⟩
      go_wp2_with fail
      go_ret
      exact ⟨ret_bool (by rw [H3.out]; simp [hl]), _, rfl⟩
  · rw [decide_eq_false h1] at H
    go_enter Tryz.func54, Tryz.ntmps54
    go_wp2_with fail
    refine H.out.mono ?_
    rintro e w' ⟨rfl, m, rfl⟩
    go_wp2_with fail
    go_ret
    exact ⟨ret_bool (by simp [h1]), _, rfl⟩
end Go.Proofs.YtoidecclimhgjaaGreatDoor
