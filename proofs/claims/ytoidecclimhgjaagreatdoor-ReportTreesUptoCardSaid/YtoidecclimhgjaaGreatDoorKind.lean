/- The kit's Kind and Rule; the law's as. -/
import Derived.Test.YtoidecclimhgjaaGreatDoorAs
import Derived.Test.YtoidecclimhgjaaGreatDoorWalker
namespace Go.Proofs.YtoidecclimhgjaaGreatDoor
open Go.RowKit

def Er.kd : Er → Nat
  | .ok => 0
  | .kind k => k
  | .rule _ k => k
  | .place _ k => k
  | .pair _ _ _ _ k => k
def Er.ru : Er → Int
  | .rule i _ => i
  | _ => -1
/-- Neither a place nor a pair. -/
def Er.plain : Er → Bool
  | .place _ _ => false
  | .pair _ _ _ _ _ => false
  | _ => true

theorem is_any (e : Nat → Addr) (v : Value) (r : Er) (w : World) (hE : GE w e) (hv : ErIs w e v r) (hp : r.plain = true) (hok : r ≠ .ok) (j : Nat) (h1 : 1 ≤ j) (h2 : j ≤ 15) :
    Calls Tryz.prog 44 #[v, ev (e j)] w fun en w' => en = .returned (.bool (decide (r.kd = j))) ∧ w = w' := by
  obtain ⟨cj, tj, hj⟩ := hE.row j h1 h2
  cases r with
  | ok => exact absurd rfl hok
  | kind k =>
    obtain ⟨k1, k2, rfl⟩ := hv
    obtain ⟨ck, tk, hk⟩ := hE.row k k1 k2
    by_cases h : k = j
    · subst h; simpa [Er.kd] using is_same (e k) w
    · have := is_other (e k) (e j) ck cj tk tj w (fun he => h (hE.inj k j k1 k2 h1 h2 he)) hk hj
      simpa [Er.kd, h] using this
  | rule i k =>
    obtain ⟨k1, k2, b, rfl, hb, c0, c1⟩ := hv
    obtain ⟨ck, tk, hk⟩ := hE.row k k1 k2
    by_cases h : k = j
    · subst h; simpa [Er.kd] using is_rule_same b (e k) w c1
    · have := is_rule_other b (e k) (e j) ck cj tk tj w c1 (fun he => h (hE.inj k j k1 k2 h1 h2 he)) hk hj
      simpa [Er.kd, h] using this
  | place i k => cases hp
  | pair a b f s k => cases hp

theorem evs_at (e : Nat → Addr) (k : Nat) (h : k < 15) : (#[ev (e 1), ev (e 2), ev (e 3), ev (e 4), ev (e 5), ev (e 6), ev (e 7), ev (e 8), ev (e 9), ev (e 10), ev (e 11), ev (e 12), ev (e 13), ev (e 14), ev (e 15)] : Array Value)[k]? = some (ev (e (k + 1))) := by
  match k, h with
  | 0, _ => exact rfl
  | 1, _ => exact rfl
  | 2, _ => exact rfl
  | 3, _ => exact rfl
  | 4, _ => exact rfl
  | 5, _ => exact rfl
  | 6, _ => exact rfl
  | 7, _ => exact rfl
  | 8, _ => exact rfl
  | 9, _ => exact rfl
  | 10, _ => exact rfl
  | 11, _ => exact rfl
  | 12, _ => exact rfl
  | 13, _ => exact rfl
  | 14, _ => exact rfl
  | k + 15, h => exact absurd h (by omega)

set_option maxHeartbeats 1000000 in
set_option maxRecDepth 100000 in
theorem kind_any (e : Nat → Addr) (v : Value) (r : Er) (w : World) (hE : GE w e) (hv : ErIs w e v r) (hp : r.plain = true) :
    Calls Tryz.prog 24 #[v] w (RetV w (.int .i64 r.kd)) := by
  rcases hv.form with ⟨rfl, rfl⟩ | ⟨hne, t, x, rfl⟩
  · go_enter Tryz.func24, Tryz.ntmps24
    go_wp2
    go_ret
    exact ⟨Below.refl _ _, rfl⟩
  · have b1 : Below w.heap.size w (w.alloc (.cells #[ev (e 1), ev (e 2), ev (e 3), ev (e 4), ev (e 5), ev (e 6), ev (e 7), ev (e 8), ev (e 9), ev (e 10), ev (e 11), ev (e 12), ev (e 13), ev (e 14), ev (e 15)] 30)) := (Below.refl _ _).alloc (Nat.le_refl _) _
    have His : Hid (∀ j, 1 ≤ j → j ≤ 15 → Calls Tryz.prog 44 #[.iface t x, ev (e j)] (w.alloc (.cells #[ev (e 1), ev (e 2), ev (e 3), ev (e 4), ev (e 5), ev (e 6), ev (e 7), ev (e 8), ev (e 9), ev (e 10), ev (e 11), ev (e 12), ev (e 13), ev (e 14), ev (e 15)] 30)) fun en w' => en = .returned (.bool (decide (r.kd = j))) ∧ (w.alloc (.cells #[ev (e 1), ev (e 2), ev (e 3), ev (e 4), ev (e 5), ev (e 6), ev (e 7), ev (e 8), ev (e 9), ev (e 10), ev (e 11), ev (e 12), ev (e 13), ev (e 14), ev (e 15)] 30)) = w') :=
      Lib.hid fun j h1 h2 => is_any e _ r _ (hE.below b1) (hv.below b1) hp hne j h1 h2
    have hkd : 1 ≤ r.kd ∧ r.kd ≤ 15 := by
      cases r with
      | ok => exact absurd rfl hne
      | kind k => exact ⟨hv.1, hv.2.1⟩
      | rule i k => exact ⟨hv.1, hv.2.1⟩
      | place i k => cases hp
      | pair a b f s k => cases hp
    obtain ⟨kd1, kd2⟩ := hkd
    have hz := hE.size
    have z0 : 0 < w.heap.size := by omega
    have s1 : gno 1 < w.heap.size := Nat.lt_of_lt_of_le (gno_lt 1) hE.size
    have c1 := hE.cell 1 (by omega) (by omega)
    have s2 : gno 2 < w.heap.size := Nat.lt_of_lt_of_le (gno_lt 2) hE.size
    have c2 := hE.cell 2 (by omega) (by omega)
    have s3 : gno 3 < w.heap.size := Nat.lt_of_lt_of_le (gno_lt 3) hE.size
    have c3 := hE.cell 3 (by omega) (by omega)
    have s4 : gno 4 < w.heap.size := Nat.lt_of_lt_of_le (gno_lt 4) hE.size
    have c4 := hE.cell 4 (by omega) (by omega)
    have s5 : gno 5 < w.heap.size := Nat.lt_of_lt_of_le (gno_lt 5) hE.size
    have c5 := hE.cell 5 (by omega) (by omega)
    have s6 : gno 6 < w.heap.size := Nat.lt_of_lt_of_le (gno_lt 6) hE.size
    have c6 := hE.cell 6 (by omega) (by omega)
    have s7 : gno 7 < w.heap.size := Nat.lt_of_lt_of_le (gno_lt 7) hE.size
    have c7 := hE.cell 7 (by omega) (by omega)
    have s8 : gno 8 < w.heap.size := Nat.lt_of_lt_of_le (gno_lt 8) hE.size
    have c8 := hE.cell 8 (by omega) (by omega)
    have s9 : gno 9 < w.heap.size := Nat.lt_of_lt_of_le (gno_lt 9) hE.size
    have c9 := hE.cell 9 (by omega) (by omega)
    have s10 : gno 10 < w.heap.size := Nat.lt_of_lt_of_le (gno_lt 10) hE.size
    have c10 := hE.cell 10 (by omega) (by omega)
    have s11 : gno 11 < w.heap.size := Nat.lt_of_lt_of_le (gno_lt 11) hE.size
    have c11 := hE.cell 11 (by omega) (by omega)
    have s12 : gno 12 < w.heap.size := Nat.lt_of_lt_of_le (gno_lt 12) hE.size
    have c12 := hE.cell 12 (by omega) (by omega)
    have s13 : gno 13 < w.heap.size := Nat.lt_of_lt_of_le (gno_lt 13) hE.size
    have c13 := hE.cell 13 (by omega) (by omega)
    have s14 : gno 14 < w.heap.size := Nat.lt_of_lt_of_le (gno_lt 14) hE.size
    have c14 := hE.cell 14 (by omega) (by omega)
    have s15 : gno 15 < w.heap.size := Nat.lt_of_lt_of_le (gno_lt 15) hE.size
    have c15 := hE.cell 15 (by omega) (by omega)
    simp only [gno] at s1 c1 s2 c2 s3 c3 s4 c4 s5 c5 s6 c6 s7 c7 s8 c8 s9 c9 s10 c10 s11 c11 s12 c12 s13 c13 s14 c14 s15 c15
    have Hev := Lib.hid (evs_at e)
    obtain ⟨w1, hw1⟩ : ∃ w1, w1 = w.alloc (.cells #[ev (e 1), ev (e 2), ev (e 3), ev (e 4), ev (e 5), ev (e 6), ev (e 7), ev (e 8), ev (e 9), ev (e 10), ev (e 11), ev (e 12), ev (e 13), ev (e 14), ev (e 15)] 30) := ⟨_, rfl⟩
    have hk1 : Blk w1 w.heap.size 30 #[ev (e 1), ev (e 2), ev (e 3), ev (e 4), ev (e 5), ev (e 6), ev (e 7), ev (e 8), ev (e 9), ev (e 10), ev (e 11), ev (e 12), ev (e 13), ev (e 14), ev (e 15)] := by rw [hw1]; exact Blk.new _ _ _
    have Hk1 := Lib.hid hk1
    have B1 : Hid (Below w.heap.size w w1) := Lib.hid (by rw [hw1]; exact b1)
    have l1 : w.heap.size < w1.heap.size := hk1.lt
    rw [← hw1] at His
    generalize r.kd = kd at *
    clear hv hE b1 hk1 hne hp
    go_enter Tryz.func24, Tryz.ntmps24
    go_wp2_with fail
    rw [← hw1]
    clear hw1
    go_loop [4, 5] (fun h i => ∃ k : Nat, k ≤ 15 ∧ i = .int .i64 k ∧ h = .int .i64 (if k < kd then 99 else kd)) (fun _ i => 15 - (intOf i).toNat)
    case atStart => exact ⟨0, by omega, rfl, by rw [if_pos (by omega)]⟩
    case round =>
      obtain ⟨k, hk, rfl, rfl⟩ := hrel
      by_cases hlt : k < 15
      · have hck : w1.cell? ⟨w.heap.size, k, none⟩ = some (ev (e (k + 1))) := by rw [Hk1.out.cell k]; exact Hev.out k hlt
        have H := Lib.hid (His.out (k + 1) (by omega) (by omega))
        by_cases hkd : kd = k + 1
        · have D : decide (kd = k + 1) = true := decide_eq_true hkd
          rw [D] at H
          have h99 : (if k < kd then (99 : Int) else kd) = 99 := if_pos (by omega)
          rw [h99]
          have Hkd := Lib.hid hkd
          clear D h99 hkd
          go_wp2_with fail
          refine H.out.mono ?_
          rintro en w2 ⟨rfl, rfl⟩
          go_wp2_with fail
          go_round
          case rel => exact ⟨k + 1, by omega, by go_num, by have := Hkd.out; rw [if_neg (by omega)]; go_num⟩
          case measure => simp [intOf]; omega
        · have D : decide (kd = k + 1) = false := decide_eq_false hkd
          rw [D] at H
          obtain ⟨hh, Hh⟩ : ∃ hh : Int, Hid ((if k < kd then (99 : Int) else kd) = hh) := ⟨_, Lib.hid rfl⟩
          rw [Hh.out]
          have Hkd := Lib.hid hkd
          clear D hkd
          go_wp2_with fail
          refine H.out.mono ?_
          rintro en w2 ⟨rfl, rfl⟩
          go_wp2_with fail
          go_round
          case rel => exact ⟨k + 1, by omega, by go_num, by rw [← Hh.out]; have := Hkd.out; congr 1; split <;> split <;> omega⟩
          case measure => simp [intOf]; omega
      · rw [if_neg (by omega)]
        go_wp2_with fail
        go_ret
        exact ⟨B1.out, rfl⟩
end Go.Proofs.YtoidecclimhgjaaGreatDoor
