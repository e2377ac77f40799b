/- dovetailref02.plain, Plain, figure, Quote; dovetailref05.free. -/
import Derived.Test.YtoidecclimhgjaaGreatDoorText4
import Derived.Test.YtoidecclimhgjaaGreatDoorAppend
import Derived.Laws.IdiomStrings
import Derived.Laws.BytesArg
import Derived.Lib.AppendStr
namespace Go.Proofs.YtoidecclimhgjaaGreatDoor
open Go.RowKit

set_option maxHeartbeats 400000 in
theorem rplain_1 (c : UInt8) (w : World) : Calls Tryz.prog 102 #[.int .u8 c.toNat] w (Quiet w (.bool (plainB c))) := by
  obtain ⟨y, Hy⟩ : ∃ y : Int, Hid ((c.toNat : Int) = y) := ⟨_, Lib.hid rfl⟩
  rw [Hy.out]
  have HF : Hid (plainB c = (decide (32 < y) && decide (y < 127) && decide (y ≠ 34))) := by
    show _ = _
    rw [plainB, ← Hy.out, dec_eq (p := 32 < c.toNat) (q := (32:Int) < c.toNat) (by omega), dec_eq (p := c.toNat < 127) (q := (c.toNat:Int) < 127) (by omega), dec_eq (p := c.toNat ≠ 34) (q := (c.toNat:Int) ≠ 34) (by omega)]
  rw [HF.out]
  by_cases h1 : 33 ≤ y
  · by_cases h2 : y ≤ 126
    · by_cases h3 : y = 34
      · go_enter Tryz.func102, Tryz.ntmps102
        go_wp2
        go_ret
        exact ⟨ret_bool (by simp <;> omega), 0, rfl⟩
      · have D1 : Hid (decide (32 < y) = true) := Lib.hid (decide_eq_true (by omega))
        have D2 : Hid (decide (y < 127) = true) := Lib.hid (decide_eq_true (by omega))
        have D3 : Hid (y ≠ 34) := Lib.hid h3
        go_enter Tryz.func102, Tryz.ntmps102
        go_wp2
        go_ret
        exact ⟨ret_bool (by rw [D1.out, D2.out]; simp [D3.out]), 0, rfl⟩
    · go_enter Tryz.func102, Tryz.ntmps102
      go_wp2
      go_ret
      exact ⟨ret_bool (by simp <;> omega), 0, rfl⟩
  · have h0 : Hid (decide (32 < y) = false) := Lib.hid (decide_eq_false (by omega))
    go_enter Tryz.func102, Tryz.ntmps102
    go_wp2
    go_ret
    exact ⟨ret_bool (by rw [h0.out]; simp), 0, rfl⟩

set_option maxHeartbeats 400000 in
theorem rPlain_any (s : ByteArray) (hs : s.size ≤ 4611686018427387904) (w : World) : Calls Tryz.prog 89 #[.string s] w (Quiet w (.bool (decide (plainAll s)))) := by
  go_enter Tryz.func89, Tryz.ntmps89
  go_wp2
  go_loopw [3] (fun i wr => ∃ k n : Nat, k ≤ s.size ∧ i = .int .i64 k ∧ wr = w.drewN n ∧ ∀ i (h : i < s.size), i < k → plainB s[i] = true) (fun i _ => s.size - (intOf i).toNat)
  case atStart => exact ⟨0, 0, Nat.zero_le _, rfl, rfl, fun i _ h => absurd h (by omega)⟩
  case round =>
    obtain ⟨k, n, hk, rfl, rfl, hi⟩ := hrel
    have Hi := Lib.hid hi
    clear hi
    by_cases hlt : k < s.size
    · have H := Lib.hid (rplain_1 s[k] (w.drewN n))
      go_wp2_with fail
      refine H.out.mono ?_
      rintro e w' ⟨rfl, m, rfl⟩
      by_cases hb : plainB s[k] = true
      · go_wp2
        go_roundw
        case rel => exact ⟨k + 1, _, by omega, by go_num, rfl, fun i h hik => by
          by_cases e : i = k
          · subst e; exact hb
          · exact Hi.out i h (by omega)⟩
        case measure => simp [intOf]; omega
      · go_wp2
        go_ret
        exact ⟨ret_bool (decide_eq_false fun h => hb (h.1 k hlt)).symm, _, rfl⟩
    · have Hall : Hid (∀ i (h : i < s.size), plainB s[i] = true) := Lib.hid fun i h => Hi.out i h (by omega)
      by_cases h0 : s.size = 0
      · go_wp2_with fail
        go_ret
        exact ⟨ret_bool (by rw [decide_eq_false (fun hp => absurd hp.2.1 (by omega))]), _, rfl⟩
      · have hp : 0 < s.size := by omega
        go_wp2_with fail
        go_ret
        exact ⟨ret_bool (by
          rw [Bool.eq_iff_iff]
          simp only [decide_eq_true_eq, plainAll, Hall.out, implies_true, true_and, hp, exists_true_left, bne_iff_ne, ne_eq]
          rw [← UInt8.toNat_inj]; simp; omega), _, rfl⟩

set_option maxHeartbeats 1000000 in
theorem rfree_all (s : ByteArray) (hs : s.size ≤ 4611686018427387904) (w : World) :
    Calls Tryz.prog 65 #[.string s] w (Quiet w (.bool (decide (plainAll s ∧ s ≠ ⟨#[58]⟩ ∧ s ≠ ⟨#[124]⟩)))) := by
  have H := Lib.hid (rPlain_any s hs w)
  by_cases h1 : plainAll s
  · rw [decide_eq_true h1] at H
    by_cases h2 : s = ⟨#[58]⟩
    · have hl : s.toList = [58] := by rw [h2, ByteArray.toList_eq]
      rw [decide_eq_false (fun h => h.2.1 h2)]
      clear h2
      go_enter Tryz.func65, Tryz.ntmps65
      go_wp2_with fail
      refine H.out.mono ?_
      rintro e w' ⟨rfl, m, rfl⟩
      go_wp2_with fail
      go_ret
      exact ⟨rfl, _, rfl⟩
    · have hl : s.toList ≠ [58] := fun h => h2 (ByteArray.ext (Array.ext' (by rw [← ByteArray.toList_eq, h])))
      have h3 : (s ≠ ⟨#[124]⟩) ↔ s.toList ≠ [124] := not_congr ⟨fun h => by rw [h, ByteArray.toList_eq], fun h => ByteArray.ext (Array.ext' (by rw [← ByteArray.toList_eq, h]))⟩
      have H3 : Hid (decide (plainAll s ∧ s ≠ ⟨#[58]⟩ ∧ s ≠ ⟨#[124]⟩) = !(s.toList == [124])) := by
        show _ = _
        rw [Bool.eq_iff_iff]; simp [h1, h2]; simpa using h3
      clear h3 h2
      go_enter Tryz.func65, Tryz.ntmps65
      go_wp2_with fail
      refine H.out.mono ?_
      rintro e w' ⟨rfl, m, rfl⟩
      go_wp2_with fail
      go_ret
      exact ⟨ret_bool (by rw [H3.out]; simp [hl]), _, rfl⟩
  · rw [decide_eq_false h1] at H
    go_enter Tryz.func65, Tryz.ntmps65
    go_wp2_with fail
    refine H.out.mono ?_
    rintro e w' ⟨rfl, m, rfl⟩
    go_wp2_with fail
    go_ret
    exact ⟨ret_bool (by simp [h1]), _, rfl⟩

theorem rfree_any (s : ByteArray) (hs : s.size ≤ 4611686018427387904) (w : World) : Calls Tryz.prog 65 #[.string s] w (Quiet w (.bool (decide (freeName s)))) := by
  have := rfree_all s hs w
  have e : decide (freeName s) = decide (plainAll s ∧ s ≠ ⟨#[58]⟩ ∧ s ≠ ⟨#[124]⟩) := dec_eq Iff.rfl
  rw [e]; exact this

def figI (n : Int) : Int := if n < 10 then 48 + n else 55 + n
set_option maxHeartbeats 400000 in
theorem figure_any (n : Int) (h0 : 0 ≤ n) (h1 : n < 16) (w : World) : Calls Tryz.prog 90 #[.int .i64 n] w fun e w' => e = .returned (.int .u8 (figI n)) ∧ w = w' := by
  by_cases h : n < 10
  · have HF : Hid (figI n = 48 + n) := Lib.hid (if_pos h)
    go_enter Tryz.func90, Tryz.ntmps90
    go_wp2
    go_ret
    exact ⟨ret_int (by first | (rw [HF.out]; done) | (rw [HF.out]; omega) | (rw [HF.out]; simp [IntKind.wrap]; done) | (rw [HF.out]; simp [IntKind.wrap]; omega)), rfl⟩
  · have HF : Hid (figI n = 55 + n) := Lib.hid (if_neg h)
    go_enter Tryz.func90, Tryz.ntmps90
    go_wp2
    go_ret
    exact ⟨ret_int (by first | (rw [HF.out]; done) | (rw [HF.out]; omega) | (rw [HF.out]; simp [IntKind.wrap]; done) | (rw [HF.out]; simp [IntKind.wrap]; omega)), rfl⟩

/-- A row of bytes as a string. -/
theorem conv_own {w : World} {base n c : Nat} {A : Option Addr} {l : List UInt8} {xs : List Value} (h : w.ownsRow base 5 1 (.slice A n c) n xs) (hx : xs = Lib.byteCells l) : (convert 48 9 (.slice A n c)).run Tryz.prog w = .ok (.string ⟨l.toArray⟩) w := by
  have hn : l.length = n := by have := h.1; rw [hx] at this; simpa [Lib.byteCells] using this
  subst hx
  rcases h.2 with ⟨hv, h0⟩ | ⟨g, cap, cur, hv, _, hh, hc, _, hs, ht⟩
  · subst h0
    have hl : l = [] := List.eq_nil_of_length_eq_zero hn
    subst hl
    simp only [Value.slice.injEq] at hv
    obtain ⟨rfl, _, rfl⟩ := hv
    exact run_convert_bytes_nil w 48 5 Tryz.underlying48 Tryz.underlying5 0 0 _ Tryz.underlying9
  · simp only [Value.slice.injEq, true_and] at hv
    obtain ⟨rfl, rfl⟩ := hv
    subst hn
    refine run_convert_bytes_back w 48 9 5 ⟨g, 0, none⟩ c l Tryz.underlying48 Tryz.underlying5 Tryz.underlying9 fun j hj => ?_
    have := h.cells (g := g) rfl j (.int .u8 l[j].toNat) (by simp [Lib.byteCells, hj])
    exact this
end Go.Proofs.YtoidecclimhgjaaGreatDoor
