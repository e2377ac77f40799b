/- report.writer.put. -/
import Derived.Test.YtoidecclimhgjaaGreatDoorLibs
namespace Go.Proofs.YtoidecclimhgjaaGreatDoor
open Go.RowKit

theorem bt_writer : BT 53 7 := ⟨by kernel_rfl, by decide⟩
def flatB (l : List ByteArray) : List UInt8 := l.flatMap (·.data.toList)
theorem flatB_snoc (l : List ByteArray) (k : Nat) (hk : k < l.length) : flatB (l.take (k + 1)) = flatB (l.take k) ++ l[k].data.toList := by
  rw [List.take_succ_eq_append_getElem hk, flatB, List.flatMap_append]; simp [flatB]
theorem flatB_le (l : List ByteArray) (k : Nat) (hk : k < l.length) : (flatB (l.take k)).length + l[k].size ≤ (flatB l).length := by
  have h : (flatB (l.take (k+1))).length + (flatB (l.drop (k+1))).length = (flatB l).length := by
    rw [← List.length_append, flatB, flatB, ← List.flatMap_append, List.take_append_drop]; rfl
  rw [flatB_snoc l k hk, List.length_append] at h
  have : l[k].data.toList.length = l[k].size := rfl
  omega

set_option maxHeartbeats 2000000 in
set_option maxRecDepth 100000 in
theorem put_any (rest : List Value) (hr : rest.length = 5) (B g kb c : Nat) (bs : List UInt8) (l : List ByteArray) (w : World) (h : Bld w B g 53 rest bs) (ha : Blk w kb 9 (strs l).toArray) (hkb : kb ≠ g)
    (hlen : bs.length + (flatB l).length ≤ 140737488355328) (hl : l.length ≤ 4611686018427387904) (hB : B ≤ w.heap.size) :
    Calls Tryz.prog 17 #[.pointer (some ⟨g, 0, none⟩), .slice (some ⟨kb, 0, none⟩) l.length c] w (fun en w' => en = .returned (.tuple #[]) ∧ Below B w w' ∧ Bld w' B g 53 rest (bs ++ flatB l) ∧ Keeps w g w') := by
  have hbt : BT 53 (rest.length + 2) := by rw [hr]; exact bt_writer
  go_enter Tryz.func17, Tryz.ntmps17
  go_wp2
  go_loopw [8] (fun i wr => ∃ k : Nat, k ≤ l.length ∧ i = .int .i64 k ∧ Below B w wr ∧ Bld wr B g 53 rest (bs ++ flatB (l.take k)) ∧ Keeps w g wr) (fun i _ => l.length - (intOf i).toNat)
  case atStart => exact ⟨0, Nat.zero_le _, rfl, Below.refl _ _, by simpa [flatB] using h, Keeps.refl _ _⟩
  case round =>
    obtain ⟨k, hk, rfl, hb, hBq, hK⟩ := hrel
    by_cases hlt : k < l.length
    · have hak := hK kb _ _ hkb (by decide) ha
      have hck : wr.cell? ⟨kb, k, none⟩ = some (.string l[k]) := by
        have := hak.cell k
        simpa [strs, hlt] using this
      have hfl := flatB_le l k hlt
      have Hst := Lib.hid (flatB_snoc l k hlt)
      have H := Lib.hid (writeString_keeps 53 rest hbt B g _ l[k] wr hBq (by rw [List.length_append]; omega) (Nat.le_trans hB hb.size))
      have hgl := hBq.lt
      clear hfl hak
      go_wp2_with fail
      refine H.out.mono ?_
      rintro en w2 ⟨⟨rfl, hb2, hB2⟩, hK2⟩
      go_wp2_with fail
      go_roundw
      case rel => exact ⟨k + 1, by omega, by go_num, hb.trans hb2, by rw [Hst.out, ← List.append_assoc]; exact hB2, hK.trans hK2⟩
      case measure => simp [intOf]; omega
    · have ht : l.take k = l := List.take_of_length_le (by omega)
      rw [ht] at hBq
      go_wp2_with fail
      go_end0
      exact ⟨rfl, hb, hBq, hK⟩
end Go.Proofs.YtoidecclimhgjaaGreatDoor
