/- slices.Index, slices.Contains over strings. -/
import Derived.Test.YtoidecclimhgjaaGreatDoorBase
namespace Go.Proofs.YtoidecclimhgjaaGreatDoor
open Go.RowKit

/-- The place of the first of a list that is v; -1: none. -/
def idxOf (v : ByteArray) (l : List ByteArray) : Int := match l.findIdx? (fun x => decide (v = x)) with | some k => (k : Int) | none => -1
theorem idxOf_hit {v : ByteArray} {l : List ByteArray} {k : Nat} (hk : k < l.length) (h0 : v ∉ l.take k) (h : v = l[k]) : idxOf v l = k := by
  have : l.findIdx? (fun x => decide (v = x)) = some k := by
    rw [List.findIdx?_eq_some_iff_getElem]
    refine ⟨hk, by simp [h], fun j hj => ?_⟩
    simp only [decide_eq_true_eq]
    rintro rfl
    exact h0 (List.mem_take_iff_getElem.2 ⟨j, by omega, rfl⟩)
  simp [idxOf, this]
theorem idxOf_miss {v : ByteArray} {l : List ByteArray} (h0 : v ∉ l) : idxOf v l = -1 := by
  have : l.findIdx? (fun x => decide (v = x)) = none := by
    rw [List.findIdx?_eq_none_iff]; intro x hx; simp; rintro rfl; exact h0 hx
  simp [idxOf, this]
theorem idxOf_nonneg (v : ByteArray) (l : List ByteArray) : 0 ≤ idxOf v l ↔ v ∈ l := by
  by_cases h : v ∈ l
  · simp only [h, iff_true]; unfold idxOf
    split
    · omega
    · rename_i hn; rw [List.findIdx?_eq_none_iff] at hn; have := hn v h; simp at this
  · rw [idxOf_miss h]; simp [h]

set_option maxHeartbeats 400000 in
theorem idx_str (A : Option Addr) (c : Nat) (l : List ByteArray) (v : ByteArray) (w : World) (B : Nat) (h : Row w B A (strs l)) (hl : l.length ≤ 4611686018427387904) :
    Calls Tryz.prog 96 #[.slice A l.length c, .string v] w (Quiet w (.int .i64 (idxOf v l))) := by
  go_enter Tryz.func96, Tryz.ntmps96
  go_wp2
  go_loop [8] (fun i => ∃ k : Nat, k ≤ l.length ∧ i = .int .i64 k ∧ v ∉ l.take k) (fun i => l.length - (intOf i).toNat)
  case atStart => exact ⟨0, Nat.zero_le _, rfl, by simp⟩
  case round =>
    obtain ⟨k, hk, rfl, hi⟩ := hrel
    by_cases hlt : k < l.length
    · obtain ⟨b, o, rfl, hb, hc⟩ := h.at_ (k := k) (by simpa [strs] using hlt)
      have hck : w.cell? ⟨b, o + k, none⟩ = some (.string l[k]) := by rw [hc k (by simpa [strs] using hlt)]; simp [strs]
      clear hc
      go_wp2
      · have hv : (v.toList == l[k].toList) = true := by assumption
        go_ret
        exact ⟨by rw [idxOf_hit hlt hi (bytes_yes hv)]; rfl, 0, rfl⟩
      · have hv : (v.toList == l[k].toList) = false := by assumption
        go_round
        case rel => exact ⟨k + 1, by omega, by go_num, by rw [take_succ_mem hlt]; simp [hi, bytes_no hv]⟩
        case measure => simp [intOf]; omega
    · rw [List.take_of_length_le (by omega)] at hi
      go_wp2
      go_ret
      exact ⟨by rw [idxOf_miss hi]; rfl, 0, rfl⟩

set_option maxHeartbeats 400000 in
theorem con_str (A : Option Addr) (c : Nat) (l : List ByteArray) (v : ByteArray) (w : World) (B : Nat) (h : Row w B A (strs l)) (hl : l.length ≤ 4611686018427387904) :
    Calls Tryz.prog 93 #[.slice A l.length c, .string v] w (Quiet w (.bool (decide (v ∈ l)))) := by
  go_enter Tryz.func93, Tryz.ntmps93
  go_wp2_with fail
  refine (idx_str A c l v w B h hl).mono ?_
  rintro e w' ⟨rfl, m, rfl⟩
  go_wp2
  go_ret
  exact ⟨ret_bool (dec_eq (idxOf_nonneg v l)), m, rfl⟩
end Go.Proofs.YtoidecclimhgjaaGreatDoor
